import Derived.Test.YthekpkamedjloaaPd7
import Derived.Test.YthekpkamedjloaaVc
namespace Go.Proofs.Ythekpkamedjloaa
open Go.RowKit
def isZ : Nat → List Value → Bool
  | 0, [] => true
  | n + 1, v :: l => (match v with | .int .i64 x => x == 0 | _ => false) && isZ n l
  | _, _ => false
theorem isZ_eq : ∀ (n : Nat) (l : List Value), isZ n l = true → l = List.replicate n (.int .i64 0)
  | 0, [], _ => rfl
  | n + 1, v :: l, h => by
    simp only [isZ, Bool.and_eq_true] at h
    obtain ⟨h1, h2⟩ := h
    rw [isZ_eq n l h2, List.replicate_succ]
    congr 1
    split at h1
    · simp at h1; rw [h1]
    · cases h1
theorem zc76 : (zc PR 51).toList = List.replicate 40000 (.int .i64 0) := isZ_eq _ _ (by kernel_rfl)
/-- The pairs of a block, in the order in which they are counted. -/
def prs (b : List Int) : List (Int × Int) := (List.range b.length).flatMap fun i => (b.take i).map fun y => (y, b.getD i 0)
def prsTo (b : List Int) (i : Nat) : List (Int × Int) := (List.range i).flatMap fun i => (b.take i).map fun y => (y, b.getD i 0)
/-- The table that counts pairs. -/
structure Tog (W : World) (B bt : Nat) (Ps : List (Int × Int)) : Prop where
  ex : ∃ vs, OwnR W B 51 (some (bl bt)) 40000 40000 vs ∧ ∀ x y : Nat, x < 200 → y < 200 → vs[x * 200 + y]? = some (.int .i64 (Ps.count ((x : Int), (y : Int))))
theorem Tog.read {W : World} {B bt : Nat} {Ps : List (Int × Int)} (h : Tog W B bt Ps) {x y : Int} (hx : 0 ≤ x) (hx2 : x < 200) (hy : 0 ≤ y) (hy2 : y < 200) :
    W.cell? (((bl bt).add (x.toNat * 200)).add (y.toNat * 1)) = some (.int .i64 (Ps.count (x, y))) := by
  obtain ⟨vs, h1, h2⟩ := h.ex
  have h3 := h2 x.toNat y.toNat (by omega) (by omega)
  rw [Int.toNat_of_nonneg hx, Int.toNat_of_nonneg hy] at h3
  obtain ⟨hj, hv⟩ := List.getElem?_eq_some_iff.1 h3
  obtain ⟨p, hp, hc⟩ := OwnR.row h1 _ hj
  cases hp
  rw [bl_add2, Nat.mul_one, hc, hv]
theorem Tog.ext {W W' : World} {B bt : Nat} {Ps : List (Int × Int)} (h : Tog W B bt Ps) (hE : Ext W W') : Tog W' B bt Ps := by
  obtain ⟨vs, h1, h2⟩ := h.ex
  exact ⟨vs, h1.ext hE, h2⟩
theorem Tog.keep {W W' : World} {B bt : Nat} {Ps : List (Int × Int)} {b : Nat} (h : Tog W B bt Ps) (hg : Chg W W' (some b)) (hne : bt ≠ b) : Tog W' B bt Ps := by
  obtain ⟨vs, h1, h2⟩ := h.ex
  exact ⟨vs, h1.keep hg (.inr (by simp [obl]; exact hne)), h2⟩
theorem Tog.sto {W : World} {B bt : Nat} {Ps : List (Int × Int)} {k : World → Prop} (h : Tog W B bt Ps) {x y : Int} (hx : 0 ≤ x) (hx2 : x < 200) (hy : 0 ≤ y) (hy2 : y < 200)
    (hk : ∀ W', Tog W' B bt (Ps ++ [(x, y)]) → Chg W W' (some bt) → k W') : sto W (((bl bt).add (x.toNat * 200)).add (y.toNat * 1)) (.int .i64 ((Ps.count (x, y) : Nat) + 1 : Int)) k := by
  obtain ⟨vs, h1, h2⟩ := h.ex
  rw [bl_add2, Nat.mul_one]
  refine OwnR.sto h1 rfl (by omega) fun W' h3 hg => hk W' ⟨_, h3, fun x' y' hx' hy' => ?_⟩ hg
  have hl := h1.len
  rw [List.count_append, List.count_singleton]
  by_cases e : x.toNat * 200 + y.toNat = x' * 200 + y'
  · have e1 : x' = x.toNat := by omega
    have e2 : y' = y.toNat := by omega
    subst e1; subst e2
    rw [List.getElem?_set_self (by omega)]
    rw [Int.toNat_of_nonneg hx, Int.toNat_of_nonneg hy]
    simp
  · rw [List.getElem?_set_ne e, h2 x' y' hx' hy']
    have : ¬ ((x, y) == ((x' : Int), (y' : Int))) = true := by
      simp
      intro h1 h2
      subst h1; subst h2
      exact e (by simp)
    rw [if_neg this]
    simp
theorem rising_ok (w : World) (a : Option Addr) (xs : List Int) (c : Nat) (v : Int) (h : Ints w a xs) : Fn PR 15 [.slice a xs.length c, .int .i64 v] w fun r w' => r = .bool (decide (xs.Pairwise (· < ·) ∧ ∀ x ∈ xs, 0 ≤ x ∧ x < v)) ∧ w = w' := by
  refine U15 ?_
  unfold P15_0
  refine J_loop (F := F15) hmx L15_0 (fun x : Nat × Int => [.int .i64 v, .int .i64 x.2, .slice a xs.length c, .int .i64 xs.length, .int .i64 x.1])
    (fun x w' => x.1 ≤ xs.length ∧ (xs.take x.1).Pairwise (· < ·) ∧ (∀ y ∈ xs.take x.1, 0 ≤ y ∧ y < v ∧ y ≤ x.2) ∧ ((x.2 = -1 ∧ x.1 = 0) ∨ x.2 ∈ xs.take x.1) ∧ w = w') (fun x _ => xs.length - x.1) (0, -1) rfl ⟨by simp, by simp, by simp, by simp, rfl⟩ ?_
  rintro ⟨k, last⟩ w1 ⟨hk, hpw, hall, hlast, rfl⟩
  dsimp only at hk hpw hall hlast
  refine (T15_L0 ..).mpr ?_
  simp only [P15_L0, setA_ret, setA_again, retQ_ret, if_true]
  refine cnd_decide (fun hlt => ?_) (fun hge => ?_)
  · have hk2 : k < xs.length := by omega
    refine ix h rfl (by omega) (by omega) ?_
    rw [gi_get hk2]
    have hmem : xs[k] ∈ xs := List.getElem_mem hk2
    refine cnd_decide (fun e => ?_) (fun e => cnd_decide (fun e2 => ?_) (fun e2 => ?_))
    · refine ⟨?_, by trivial⟩
      congr 1; rw [eq_comm, decide_eq_false_iff_not]
      rintro ⟨h1, h2⟩
      rcases hlast with ⟨h3, _⟩ | h3
      · have := (h2 _ hmem).1; omega
      · obtain ⟨i, hi, hie⟩ := List.mem_take_iff_getElem.1 h3
        have := List.pairwise_iff_getElem.1 h1 i k (by omega) hk2 (by omega)
        omega
    · refine ⟨?_, by trivial⟩
      congr 1; rw [eq_comm, decide_eq_false_iff_not]
      rintro ⟨h1, h2⟩
      have := (h2 _ hmem).2; omega
    · have h0 : 0 ≤ last + 1 := by
        rcases hlast with ⟨h3, _⟩ | h3
        · omega
        · have := (hall _ h3).1; omega
      refine wr (by omega) (by have := h.len; omega) ⟨(k + 1, xs[k]), rfl, ⟨by simp; omega, ?_, ?_, ?_, by trivial⟩, by simp; omega⟩
      · simp only
        rw [List.take_succ_eq_append_getElem hk2]
        refine List.pairwise_append.2 ⟨hpw, List.pairwise_singleton _ _, fun x hx y hy => ?_⟩
        simp at hy; subst hy
        have := (hall x hx).2.2; omega
      · simp only
        rw [List.take_succ_eq_append_getElem hk2]
        intro y hy
        rcases List.mem_append.1 hy with hy | hy
        · have := hall y hy; omega
        · simp at hy; subst hy; omega
      · right
        exact List.mem_take_iff_getElem.2 ⟨k, by simp; omega, rfl⟩
  · have : k = xs.length := by omega
    subst this
    rw [List.take_length] at hpw hall
    refine ⟨?_, by trivial⟩
    congr 1; rw [eq_comm, decide_eq_true_eq]
    exact ⟨hpw, fun x hx => ⟨(hall x hx).1, (hall x hx).2.1⟩⟩
end Go.Proofs.Ythekpkamedjloaa
