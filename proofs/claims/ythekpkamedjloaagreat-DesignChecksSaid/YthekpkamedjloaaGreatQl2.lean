/- DesignDiffers: the statement's walk. -/
import Derived.Test.YthekpkamedjloaaGreatPe3
namespace Go.Proofs.YthekpkamedjloaaGreat
open Go.RowKit
theorem devRow_len (v : Int) (xs : List Int) (i : Nat) : (devRow v xs i).length = xs.length := by unfold devRow; rw [(sortI_perm _).length_eq, List.length_map]
open Classical in
theorem devS_len (v : Int) (xs : List Int) : (devS v xs).1.length ≤ 200 ∧ ∀ ys ∈ (devS v xs).1, ys.length = xs.length := by
  by_cases h : v < 3 ∨ 200 < v ∨ xs.length = 0 ∨ ¬ isSetS v xs
  · rw [devS_bad h]; simp
  · rw [devS_ok h]
    refine ⟨by simp [dev]; omega, fun ys hy => ?_⟩
    obtain ⟨i, _, rfl⟩ := List.mem_map.1 hy
    exact devRow_len v xs i
/-- int(uint(x) % uint(m)). -/
theorem umod' {x m : Int} {K : Int → Prop} (hn : 0 < m) (hn2 : m ≤ 10000000) (h : ∀ r : Int, 0 ≤ r → r < m → K r) :
    ∃ r26, IntKind.u64.wrap x = r26 ∧ ∃ r27, IntKind.u64.wrap m = r27 ∧ (r27 : Int) ≠ 0 ∧ ∃ r28, (r26 : Int).tmod r27 = r28 ∧ ∃ r29, IntKind.i64.wrap r28 = r29 ∧ K r29 := by
  have := umod (x := x) (n := m.toNat) (K := K) (by omega) (by omega) (fun r h1 h2 => h r h1 (by omega))
  rwa [Int.toNat_of_nonneg (by omega)] at this
/-- int(uint(x) % m), m a constant. -/
theorem umodc {x m : Int} {K : Int → Prop} (hn : 0 < m) (hn2 : m ≤ 10000000) (h : ∀ r : Int, 0 ≤ r → r < m → K r) :
    ∃ r26, IntKind.u64.wrap x = r26 ∧ m ≠ 0 ∧ ∃ r28, (r26 : Int).tmod m = r28 ∧ ∃ r29, IntKind.i64.wrap r28 = r29 ∧ K r29 := by
  refine ⟨_, rfl, by omega, ?_⟩
  have h0 := Int.emod_nonneg (IntKind.u64.wrap x) (show m ≠ 0 by omega)
  have h1 := Int.emod_lt_of_pos (IntKind.u64.wrap x) hn
  refine ⟨_, tmod_nn wrap_u, wr (by omega) (by omega) (h _ h0 h1)⟩

open Classical in
theorem differs_law (w : World) (v : Int) (a : Option Addr) (n c : Nat) (xs : List Int) (h : SlI w a n c xs) : Fn PR 4 [.int .i64 v, .slice a n c] w fun v w' => v = .bool true ∧ Ext w w' := by
  refine U4 ?_
  unfold P4_0
  refine (raw_ok w a n c xs 30 (by omega) h).use ?_
  rintro _ w1 ⟨⟨a', n', c', rfl, hown, hn'⟩, hE1⟩
  refine ⟨_, _, _, rfl, ?_⟩
  generalize xs.take 30 = xs at *
  refine J_loop (F := F4) hmx L4_0 (fun x : Int × List Int × Nat => [.int .i64 x.1, .slice a' n' c', .int .i64 x.2.2]) (fun x W => x.2.2 ≤ 2 ∧ OwnR W w.heap.size 3 a' n' c' (ints x.2.1) ∧ Ext w W) (fun x _ => 2 - x.2.2) (v, xs, 0) rfl ⟨by simp, hown, hE1⟩ ?_
  clear h hown hE1
  rintro ⟨v, xs, k⟩ W ⟨hk, hown, hE⟩
  dsimp only at hk hown hE
  refine (T4_L0 ..).mpr ?_
  simp only [P4_L0, setA_ret, retQ_ret]
  refine cnd_decide (fun hk2 => ?_) (fun hk2 => ?_)
  · have hk2 : k < 2 := by omega
    have hl := ilenR hown
    subst hl
    have hi : Ints W a' xs := hown.ints (by omega)
    refine (isDifference_ok W v a' xs c' hi (by omega)).use ?_
    rintro _ w2 ⟨rfl, hE2⟩
    refine ⟨_, _, rfl, (rIsDifference_ok w2 v a' xs c' (hi.ext hE2)).use ?_⟩
    rintro _ w3 ⟨rfl, hE3⟩
    refine ⟨_, _, rfl, (develop_ok w3 v a' xs c' (hi.ext (hE2.trans hE3)) (by omega)).use ?_⟩
    rintro _ w4 ⟨⟨pa, pn, pc, phs, rfl, hp⟩, hE4⟩
    refine ⟨_, _, _, _, rfl, (rdevelop_ok w4 v a' xs c' (hi.ext (hE2.trans (hE3.trans hE4)))).use ?_⟩
    rintro _ w5 ⟨⟨qa, qn, qc, qhs, rfl, hq⟩, hE5⟩
    refine ⟨_, _, _, _, rfl, ?_⟩
    simp only [decide_true, Bool.not_true, cnd_F, beq_self_eq_true]
    have hdl := devS_len v xs
    have hpl := hp.ilen
    have hql := hq.ilen
    have hp2 := (hp.ints2 (by omega) (fun ys hy => by have := hdl.2 ys hy; omega)).ext hE5
    have hq2 := hq.ints2 (by omega) (fun ys hy => by have := hdl.2 ys hy; omega)
    have hrows := rows_ok w5 pa qa phs qhs _ _ pc qc hp2 hq2
    rw [← hpl] at hrows
    rw [show pn = qn by omega] at hrows ⊢
    refine hrows.use ?_
    rintro _ w6 ⟨rfl, hE6⟩
    refine ⟨_, rfl, ?_⟩
    simp only [decide_true, Bool.not_true, cnd_F]
    refine umodc (by omega) (by omega) fun r hr hr2 => ?_
    refine wr (by omega) (by omega) ?_
    have hEE : Ext W w6 := hE2.trans (hE3.trans (hE4.trans (hE5.trans hE6)))
    generalize hv : 3 + r = v'
    refine J_loop (F := F4) hmx L4_2 (fun x : Nat × List Int => [.int .i64 v', .slice a' xs.length c', .int .i64 k, .int .i64 x.1]) (fun x W => x.1 ≤ xs.length ∧ x.2.length = xs.length ∧ OwnR W w.heap.size 3 a' xs.length c' (ints x.2) ∧ Ext w W) (fun x _ => xs.length - x.1) (0, xs) rfl
      ⟨by simp, rfl, hown.ext hEE, hE.trans hEE⟩ ?_
    rintro ⟨i, ys⟩ W2 ⟨hi2, hyl, hown2, hW2⟩
    dsimp only at hi2 hyl hown2 hW2
    refine (T4_2 ..).mpr ?_
    simp only [P4_2, setA_again, if_true]
    refine cnd_decide (fun hlt => ?_) (fun hge => ?_)
    · refine ix (hown2.ints (by omega)) (by omega) (by omega) (by omega) ?_
      refine umod' (by omega) (by omega) fun r2 h1 h2 => ?_
      obtain ⟨g, hg, _⟩ := hown2.form (by omega)
      refine ⟨by omega, by omega, _, hg, ?_⟩
      rw [Nat.mul_one, Int.toNat_natCast]
      refine OwnR.sto hown2 hg (by omega) fun W3 hown3 hg3 => wr (by omega) (by omega) ⟨(i + 1, ys.set i r2), rfl, ⟨by simp; omega, by simp [hyl], ?_, hW2.chg hg3 fun q hq => (hown2.lt q hq).1⟩, by simp; omega⟩
      rw [ints_set]
      exact hown3
    · exact wr (by omega) (by omega) ⟨(v', ys, k + 1), rfl, ⟨by simp; omega, hown2, hW2⟩, by simp; omega⟩
  · refine (awake_ok W).use ?_
    rintro _ w2 ⟨rfl, hE2⟩
    exact ⟨_, rfl, rfl, hE.trans hE2⟩
end Go.Proofs.YthekpkamedjloaaGreat
