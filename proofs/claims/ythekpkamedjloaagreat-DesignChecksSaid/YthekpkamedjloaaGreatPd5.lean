import Derived.Test.YthekpkamedjloaaGreatPs
namespace Go.Proofs.YthekpkamedjloaaGreat
open Go.RowKit
theorem index_ok (w : World) (a : Option Addr) (xs : List Int) (c : Nat) (x : Int) (h : Ints w a xs) : Fn PR 62 [.slice a xs.length c, .int .i64 x] w fun v w' => (∃ i : Int, v = .int .i64 i ∧ (0 ≤ i ↔ x ∈ xs)) ∧ w = w' := by
  refine U62 ?_
  unfold P62_0
  refine J_loop (F := F62) hmx L62_0 (fun k : Nat => [.slice a xs.length c, .int .i64 x, .int .i64 xs.length, .int .i64 k]) (fun k w' => k ≤ xs.length ∧ (∀ y ∈ xs.take k, y ≠ x) ∧ w = w') (fun k _ => xs.length - k) 0 rfl ⟨by omega, by simp, rfl⟩ ?_
  rintro k w1 ⟨hk, hall, rfl⟩
  refine (T62_L0 ..).mpr ?_
  simp only [P62_L0, setA_ret, setA_again, retQ_ret, if_true]
  refine cnd_decide (fun hlt => ?_) (fun hge => ?_)
  · have hk2 : k < xs.length := by omega
    refine ix h rfl (by omega) (by omega) ?_
    rw [gi_get hk2]
    refine cnd_decide (fun e => ?_) (fun e => ?_)
    · exact ⟨⟨k, rfl, fun _ => by rw [e]; exact List.getElem_mem hk2, fun _ => by omega⟩, by trivial⟩
    · refine wr (by omega) (by have := h.len; omega) ⟨k + 1, rfl, ⟨by omega, fun y hy => ?_, by trivial⟩, by omega⟩
      rw [List.take_succ_eq_append_getElem hk2] at hy
      rcases List.mem_append.1 hy with hy | hy
      · exact hall y hy
      · simp at hy; subst hy; exact fun e' => e e'.symm
  · have : k = xs.length := by omega
    subst this
    rw [List.take_length] at hall
    exact ⟨⟨-1, rfl, fun h => by omega, fun hm => absurd rfl (hall x hm)⟩, by trivial⟩
theorem contains_ok (w : World) (a : Option Addr) (xs : List Int) (c : Nat) (x : Int) (h : Ints w a xs) : Fn PR 45 [.slice a xs.length c, .int .i64 x] w fun v w' => v = .bool (decide (x ∈ xs)) ∧ w = w' := by
  refine U45 ?_
  unfold P45_0
  refine (index_ok w a xs c x h).use ?_
  rintro v w1 ⟨⟨i, rfl, hi⟩, rfl⟩
  exact ⟨i, rfl, by congr 1; exact decide_eq_decide.2 hi, rfl⟩
theorem has_ok (w : World) (a : Option Addr) (xs : List Int) (c : Nat) (x : Int) (h : Ints w a xs) : Fn PR 42 [.slice a xs.length c, .int .i64 x] w fun v w' => v = .bool (decide (x ∈ xs)) ∧ w = w' := by
  refine U42 ?_
  unfold P42_0
  refine J_loop (F := F42) hmx L42_0 (fun k : Nat => [.slice a xs.length c, .int .i64 x, .int .i64 k]) (fun k w' => k ≤ xs.length ∧ (∀ y ∈ xs.take k, y ≠ x) ∧ w = w') (fun k _ => xs.length - k) 0 rfl ⟨by omega, by simp, rfl⟩ ?_
  rintro k w1 ⟨hk, hall, rfl⟩
  refine (T42_L0 ..).mpr ?_
  simp only [P42_L0, setA_ret, setA_again, retQ_ret, if_true]
  refine cnd_decide (fun hlt => ?_) (fun hge => ?_)
  · have hk2 : k < xs.length := by omega
    refine ix h rfl (by omega) (by omega) ?_
    rw [gi_get hk2]
    refine cnd_decide (fun e => ?_) (fun e => ?_)
    · refine ⟨?_, by trivial⟩
      congr 1; rw [eq_comm, decide_eq_true_eq, ← e]; exact List.getElem_mem hk2
    · refine wr (by omega) (by have := h.len; omega) ⟨k + 1, rfl, ⟨by omega, fun y hy => ?_, by trivial⟩, by omega⟩
      rw [List.take_succ_eq_append_getElem hk2] at hy
      rcases List.mem_append.1 hy with hy | hy
      · exact hall y hy
      · simp at hy; subst hy; exact e
  · have : k = xs.length := by omega
    subst this
    rw [List.take_length] at hall
    refine ⟨?_, by trivial⟩
    congr 1; rw [eq_comm, decide_eq_false_iff_not]; exact fun hm => hall x hm rfl
theorem same_ok (w : World) (a b : Option Addr) (xs ys : List Int) (c d : Nat) (h : Ints w a xs) (k : Ints w b ys) : Fn PR 9 [.slice a xs.length c, .slice b ys.length d] w fun v w' => v = .bool (decide (xs = ys)) ∧ Ext w w' := by
  refine U9 ?_
  unfold P9_0
  refine cnd_not (cnd_decide (fun hl => ?_) (fun hl => ?_))
  · refine J_loop (F := F9) hmx L9_0 (fun i : Nat => [.slice a xs.length c, .slice b ys.length d, .int .i64 i]) (fun i w' => i ≤ xs.length ∧ xs.take i = ys.take i ∧ Ext w w') (fun i _ => xs.length - i) 0 rfl ⟨by omega, by simp, Ext.refl w⟩ ?_
    rintro i w1 ⟨hi, heq, hE⟩
    refine (T9_L0 ..).mpr ?_
    simp only [P9_L0, setA_ret, setA_again, retQ_ret, if_true]
    refine cnd_decide (fun hlt => ?_) (fun hge => ?_)
    · rintro w2 rfl
      have hE2 := hE.trans (Ext.drew w1)
      have hi1 : i < xs.length := by omega
      have hi2 : i < ys.length := by omega
      refine ix (h.ext hE2) rfl (by omega) (by omega) (ix (k.ext hE2) rfl (by omega) (by omega) ?_)
      rw [gi_get hi1, gi_get hi2]
      refine cnd_not (cnd_decide (fun e => ?_) (fun e => ?_))
      · refine wr (by omega) (by have := h.len; omega) ⟨i + 1, rfl, ⟨by omega, ?_, hE2⟩, by omega⟩
        rw [List.take_succ_eq_append_getElem hi1, List.take_succ_eq_append_getElem hi2, heq, e]
      · refine ⟨?_, hE2⟩
        congr 1; rw [eq_comm, decide_eq_false_iff_not]
        intro e2; subst e2; exact e rfl
    · refine ⟨?_, hE⟩
      congr 1; rw [eq_comm, decide_eq_true_eq]
      have h1 : i = xs.length := by omega
      have h2 : i = ys.length := by omega
      rw [h1, List.take_length, ← h1, h2, List.take_length] at heq
      exact heq
  · refine ⟨?_, Ext.refl w⟩
    congr 1; rw [eq_comm, decide_eq_false_iff_not]
    intro e; subst e; exact hl rfl
/-! ### Places -/
def plcS (a b : Int) (xs : List Int) : Prop := xs.Pairwise (· < ·) ∧ ∀ x, x ∈ xs ↔ x = -1 ∨ x = 2 ∨ (isP x ∧ (a % x = 0 ∨ b % x = 0))
theorem plcS_unique {a b : Int} {xs ys : List Int} (h : plcS a b xs) (k : plcS a b ys) : xs = ys := rising_eq h.1 k.1 fun x => (h.2 x).trans (k.2 x).symm
theorem slt25 : SlT PR 25 3 (.int .i64 0) 8 := ⟨by kernel_rfl, by kernel_rfl, rfl, by omega⟩
theorem isP_le {a p : Int} (ha : a ≠ 0) (ha2 : a.natAbs ≤ 1000000) (h : a % p = 0) : p ≤ 1000000 := by
  have h1 : p ∣ (a.natAbs : Int) := Int.dvd_natAbs.2 (Int.dvd_of_emod_eq_zero h)
  have := Int.le_of_dvd (by omega) h1
  omega
theorem isP_odd {p : Int} (h : isP p) (h2 : p ≠ 2) : p % 2 = 1 ∧ 3 ≤ p := by
  have h1 := h.1
  have : p % 2 ≠ 0 := isP_dvd h (by omega) (by omega)
  omega
open Classical in
theorem rplaces_ok (w : World) (a b : Int) (ha : a ≠ 0) (hb : b ≠ 0) (ha2 : a.natAbs ≤ 1000000) (hb2 : b.natAbs ≤ 1000000) :
    Fn PR 10 [.int .i64 a, .int .i64 b] w fun v w' => ∃ p n c xs, v = .slice p n c ∧ OwnR w' w.heap.size 3 p n c (ints xs) ∧ plcS a b xs ∧ Ext w w' ∧ n ≤ 1000002 := by
  refine U10 ?_
  unfold P10_0
  rintro b1 w1 rfl rfl
  refine J_loop (F := F10) hmx L10_0 (fun x : Option Addr × Nat × Nat × Int × List Int => [.int .i64 a, .int .i64 b, .slice x.1 x.2.1 x.2.2.1, .int .i64 x.2.2.2.1])
    (fun x w' => OwnR w' w.heap.size 3 x.1 x.2.1 x.2.2.1 (ints x.2.2.2.2) ∧ Ext w w' ∧ (3 ≤ x.2.2.2.1 ∧ x.2.2.2.1 ≤ 1000002 ∧ x.2.2.2.1 % 2 = 1) ∧ ((x.2.1 : Int) ≤ x.2.2.2.1) ∧ x.2.2.2.2.Pairwise (· < ·) ∧
      ∀ y, y ∈ x.2.2.2.2 ↔ y = -1 ∨ y = 2 ∨ (isP y ∧ (a % y = 0 ∨ b % y = 0) ∧ y < x.2.2.2.1)) (fun x _ => (1000003 - x.2.2.2.1).toNat) (some (bl w.heap.size), 2, 2, 3, [-1, 2]) rfl ?_ ?_
  · refine ⟨OwnR.lit (ints [-1, 2]) rfl (Nat.le_refl _) (by simp), Ext.alloc _ _, by simp, by simp, by simp, fun y => ?_⟩
    simp
    constructor
    · rintro (h | h)
      · exact .inl h
      · exact .inr (.inl h)
    · rintro (h | h | ⟨h, _, h2⟩)
      · exact .inl h
      · exact .inr h
      · have := h.1; right; omega
  · rintro ⟨p, n, c, d, xs⟩ w1 ⟨hown, hE, ⟨hd, hd2, hd3⟩, hnd, hpw, hmem⟩
    dsimp only at hown hE hd hd2 hd3 hnd hpw hmem
    refine (T10_L0 ..).mpr ?_
    simp only [P10_L0, setA_ret, setA_again, retQ_ret, if_true]
    -- the two ways to go on
    have skip : ¬ (isP d ∧ (a % d = 0 ∨ b % d = 0)) → d ≤ 1000000 → ∃ r, IntKind.i64.wrap (d + 2) = r ∧ ∃ y : Option Addr × Nat × Nat × Int × List Int, [Value.int .i64 a, .int .i64 b, .slice p n c, .int .i64 r] = [.int .i64 a, .int .i64 b, .slice y.1 y.2.1 y.2.2.1, .int .i64 y.2.2.2.1] ∧
        (OwnR w1 w.heap.size 3 y.1 y.2.1 y.2.2.1 (ints y.2.2.2.2) ∧ Ext w w1 ∧ (3 ≤ y.2.2.2.1 ∧ y.2.2.2.1 ≤ 1000002 ∧ y.2.2.2.1 % 2 = 1) ∧ ((y.2.1 : Int) ≤ y.2.2.2.1) ∧ y.2.2.2.2.Pairwise (· < ·) ∧
      ∀ z, z ∈ y.2.2.2.2 ↔ z = -1 ∨ z = 2 ∨ (isP z ∧ (a % z = 0 ∨ b % z = 0) ∧ z < y.2.2.2.1)) ∧ (1000003 - y.2.2.2.1).toNat < (1000003 - d).toNat := by
      intro hno hle
      refine wr (by omega) (by omega) ⟨(p, n, c, d + 2, xs), rfl, ⟨hown, hE, ⟨by simp; omega, by simp; omega, by simp; omega⟩, by simp; omega, hpw, fun z => (hmem z).trans ?_⟩, by simp; omega⟩
      constructor
      · rintro (h | h | ⟨h1, h2, h3⟩)
        · exact .inl h
        · exact .inr (.inl h)
        · exact .inr (.inr ⟨h1, h2, by show z < d + 2; omega⟩)
      · rintro (h | h | ⟨h1, h2, h3⟩)
        · exact .inl h
        · exact .inr (.inl h)
        · replace h3 : z < d + 2 := h3
          by_cases e : z = 2
          · exact .inr (.inl e)
          · have := isP_odd h1 e
            refine .inr (.inr ⟨h1, h2, ?_⟩)
            by_cases e2 : z = d
            · subst e2; exact absurd ⟨h1, h2⟩ hno
            · omega
    have take : isP d → (a % d = 0 ∨ b % d = 0) → d ≤ 1000000 → newC w1 (.cells #[.int .i64 d] 3) fun b7 w8 => app PR 25 25 25 p n c (some (bl b7)) 1 1 w8 fun a9 c10 w11 => ∃ r12, IntKind.i64.wrap (d + 2) = r12 ∧ ∃ y : Option Addr × Nat × Nat × Int × List Int, [Value.int .i64 a, .int .i64 b, .slice a9 (n + 1) c10, .int .i64 r12] = [.int .i64 a, .int .i64 b, .slice y.1 y.2.1 y.2.2.1, .int .i64 y.2.2.2.1] ∧
        (OwnR w11 w.heap.size 3 y.1 y.2.1 y.2.2.1 (ints y.2.2.2.2) ∧ Ext w w11 ∧ (3 ≤ y.2.2.2.1 ∧ y.2.2.2.1 ≤ 1000002 ∧ y.2.2.2.1 % 2 = 1) ∧ ((y.2.1 : Int) ≤ y.2.2.2.1) ∧ y.2.2.2.2.Pairwise (· < ·) ∧
      ∀ z, z ∈ y.2.2.2.2 ↔ z = -1 ∨ z = 2 ∨ (isP z ∧ (a % z = 0 ∨ b % z = 0) ∧ z < y.2.2.2.1)) ∧ (1000003 - y.2.2.2.1).toNat < (1000003 - d).toNat := by
      intro hP hdv hle
      refine app1 slt25 hown hE.size rfl (by omega) ?_
      intro b7 w8 a9 c10 w11 hown' hg hbl hf
      refine wr (by omega) (by omega) ⟨(a9, n + 1, c10, d + 2, xs ++ [d]), rfl, ⟨by simpa [ints] using hown', hE.chg hg (fun k hk => (hown.lt k hk).1), ⟨by simp; omega, by simp; omega, by simp; omega⟩, by simp; omega, ?_, fun z => ?_⟩, by simp; omega⟩
      · refine List.pairwise_append.2 ⟨hpw, List.pairwise_singleton _ _, fun x hx y hy => ?_⟩
        simp at hy; subst hy
        rcases (hmem x).1 hx with h | h | h
        · omega
        · omega
        · exact h.2.2
      · simp only [List.mem_append, List.mem_singleton]
        rw [hmem z]
        constructor
        · rintro ((h | h | ⟨h1, h2, h3⟩) | h)
          · exact .inl h
          · exact .inr (.inl h)
          · exact .inr (.inr ⟨h1, h2, by show z < d + 2; omega⟩)
          · subst h; exact .inr (.inr ⟨hP, hdv, by show z < z + 2; omega⟩)
        · rintro (h | h | ⟨h1, h2, h3⟩)
          · exact .inl (.inl h)
          · exact .inl (.inr (.inl h))
          · replace h3 : z < d + 2 := h3
            by_cases e : z = 2
            · exact .inl (.inr (.inl e))
            · have := isP_odd h1 e
              by_cases e2 : z = d
              · exact .inr e2
              · exact .inl (.inr (.inr ⟨h1, h2, by omega⟩))
    refine cnd_decide (fun hle => ?_) (fun hgt => ?_)
    · refine ⟨by omega, _, rfl, cnd_decide (fun h1 => ?_) (fun h1 => ?_)⟩
      · have h1 := tmod_zero.1 h1
        refine (prime_ok w1 d hle).use ?_
        rintro v w2 ⟨rfl, rfl⟩
        refine ⟨_, rfl, cnd_decide (fun hP => take hP (.inl h1) hle) (fun hP => skip (fun h => hP h.1) hle)⟩
      · refine ⟨by omega, _, rfl, cnd_decide (fun h2 => ?_) (fun h2 => ?_)⟩
        · have h2 := tmod_zero.1 h2
          refine (prime_ok w1 d hle).use ?_
          rintro v w2 ⟨rfl, rfl⟩
          refine ⟨_, rfl, cnd_decide (fun hP => take hP (.inr h2) hle) (fun hP => skip (fun h => hP h.1) hle)⟩
        · exact skip (fun h => h.2.elim (fun h3 => h1 (tmod_zero.2 h3)) (fun h3 => h2 (tmod_zero.2 h3))) hle
    · refine ⟨p, n, c, xs, rfl, hown, ⟨hpw, fun x => (hmem x).trans ?_⟩, hE, by omega⟩
      constructor
      · rintro (h | h | h)
        · exact .inl h
        · exact .inr (.inl h)
        · exact .inr (.inr ⟨h.1, h.2.1⟩)
      · rintro (h | h | h)
        · exact .inl h
        · exact .inr (.inl h)
        · refine .inr (.inr ⟨h.1, h.2, ?_⟩)
          have := h.2.elim (fun h3 => isP_le ha ha2 h3) (fun h3 => isP_le hb hb2 h3)
          omega
end Go.Proofs.YthekpkamedjloaaGreat
