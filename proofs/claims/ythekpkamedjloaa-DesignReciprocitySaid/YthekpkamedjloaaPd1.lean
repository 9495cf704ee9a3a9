import Derived.Test.YthekpkamedjloaaVd
import Derived.Test.YthekpkamedjloaaVb
import Derived.Test.YthekpkamedjloaaM1
namespace Go.Proofs.Ythekpkamedjloaa
open Go.RowKit
theorem tmod_zero {n p : Int} : n.tmod p = 0 ↔ n % p = 0 := ⟨fun h => Int.emod_eq_zero_of_dvd (Int.dvd_of_tmod_eq_zero h), fun h => Int.tmod_eq_zero_of_dvd (Int.dvd_of_emod_eq_zero h)⟩
theorem tdiv_exact {n p : Int} (h : n % p = 0) : n.tdiv p = n / p := Int.tdiv_eq_ediv_of_dvd (Int.dvd_of_emod_eq_zero h)
theorem small_div {u p : Int} (hp : 2 ≤ p) (h : u % p = 0) : (u / p).natAbs * 2 ≤ u.natAbs := by
  have h1 : u / p * p = u := Int.ediv_mul_cancel (Int.dvd_of_emod_eq_zero h)
  have : u.natAbs = (u / p).natAbs * p.natAbs := by rw [← Int.natAbs_mul, h1]
  rw [this]
  exact Nat.mul_le_mul_left _ (by omega)
theorem step_pow {n u p : Int} {e : Nat} (h : n = u * p ^ e) (h0 : u % p = 0) : n = u / p * p ^ (e + 1) := by
  have h1 : u / p * p = u := Int.ediv_mul_cancel (Int.dvd_of_emod_eq_zero h0)
  rw [Int.pow_succ, Int.mul_comm (p ^ e) p, ← Int.mul_assoc, h1, h]
theorem split_ok (w : World) (n p : Int) (hp : 2 ≤ p) (h0 : n ≠ 0) (hn : n.natAbs ≤ 1000000) :
    Fn PR 26 [.int .i64 n, .int .i64 p] w fun v w' => v = .tuple #[.int .i64 (spl p n).1, .int .i64 (spl p n).2] ∧ w = w' := by
  refine U26 ?_
  unfold P26_0
  refine J_loop (F := F26) hmx L26_0 (fun x : Nat × Int => [.int .i64 x.2, .int .i64 p, .int .i64 x.1]) (fun x w' => n = x.2 * p ^ x.1 ∧ w = w') (fun x _ => x.2.natAbs) (0, n) rfl ⟨by simp, rfl⟩ ?_
  rintro ⟨e, u⟩ w1 ⟨hu, rfl⟩
  refine (T26_L0 ..).mpr ?_
  simp only [P26_L0, setA_ret, setA_again, retQ_ret, if_true]
  obtain ⟨h1, h2, h3⟩ := spl_small hp h0 hu
  refine ⟨by omega, _, rfl, cnd_decide (fun h => ?_) (fun h => ?_)⟩
  · have h := tmod_zero.1 h
    have h4 := small_div hp h
    refine ⟨by omega, _, rfl, ?_⟩
    rw [tdiv_exact h]
    obtain ⟨r, h5, h6⟩ := wr (e := u / p) (p := fun r => r = u / p) (by omega) (by omega) rfl
    rw [h5, h6]
    refine wr (by omega) (by omega) ⟨(e + 1, u / p), rfl, ⟨step_pow hu h, by trivial⟩, ?_⟩
    show (u / p).natAbs < u.natAbs
    have : (u / p) ≠ 0 := by
      intro e0
      have h1 : u / p * p = u := Int.ediv_mul_cancel (Int.dvd_of_emod_eq_zero h)
      rw [e0] at h1; omega
    omega
  · have := spl_eq hp h0 hu (fun h' => h (tmod_zero.2 h'))
    rw [this]
    exact ⟨rfl, by trivial⟩
theorem sign_ok (w : World) (n : Int) : Fn PR 20 [.int .i64 n] w fun v w' => v = .int .i64 (sg n) ∧ w = w' := by
  refine U20 ?_
  unfold P20_0
  refine ⟨by omega, _, rfl, cnd_decide (fun h => ?_) (fun h => ?_)⟩
  · exact ⟨by unfold sg; rw [if_pos (tmod_zero.1 h)], rfl⟩
  · exact ⟨by unfold sg; rw [if_neg (fun h' => h (tmod_zero.2 h'))], rfl⟩
theorem tmod_norm {n p : Int} (hp : 0 < p) : (n.tmod p + p).tmod p = n % p := by
  have h1 : 0 ≤ n.tmod p + p := by have := Int.lt_tmod_of_pos n hp; omega
  rw [Int.tmod_eq_emod_of_nonneg h1, Int.add_emod_right]
  have h2 : n = n.tdiv p * p + n.tmod p := by have := Int.tdiv_mul_add_tmod n p; omega
  conv => rhs; rw [h2]
  rw [Int.add_comm, Int.add_mul_emod_self_right]
theorem tmod_range (n : Int) {p : Int} (hp : 0 < p) : -p < n.tmod p ∧ n.tmod p < p := ⟨Int.lt_tmod_of_pos n hp, Int.tmod_lt_of_pos n hp⟩
/-- Fast powers: out x^k keeps its remainder. -/
theorem fast {out x k p : Int} (hk : 0 < k) : (out * x % p) * (x * x % p) ^ (k / 2).toNat % p = out * x ^ (2 * (k / 2).toNat + 1) % p ∧ out * (x * x % p) ^ (k / 2).toNat % p = out * x ^ (2 * (k / 2).toNat) % p := by
  have hpow : ∀ m : Nat, (x * x % p) ^ m % p = x ^ (2 * m) % p := by
    intro m
    rw [Int.pow_mul, show x ^ 2 = x * x by rw [Int.pow_succ, Int.pow_succ]; simp]
    induction m with
    | zero => simp
    | succ m ih => rw [Int.pow_succ, Int.pow_succ, Int.mul_emod, ih, Int.emod_emod, ← Int.mul_emod]
  constructor
  · rw [Int.mul_emod, Int.emod_emod, hpow, ← Int.mul_emod, Int.pow_succ]
    congr 1
    rw [Int.mul_assoc, Int.mul_comm x]
  · rw [Int.mul_emod, hpow, ← Int.mul_emod]
theorem k_odd {k : Int} (h0 : 0 < k) (h : k % 2 = 1) : 2 * (k / 2).toNat + 1 = k.toNat := by omega
theorem k_even {k : Int} (h0 : 0 < k) (h : k % 2 ≠ 1) : 2 * (k / 2).toNat = k.toNat := by omega
theorem mul_bound {a b p : Int} (ha : 0 ≤ a) (ha2 : a < p) (hb : 0 ≤ b) (hb2 : b < p) (hp : p ≤ 1000000) : 0 ≤ a * b ∧ a * b ≤ 1000000000000 := by
  refine ⟨Int.mul_nonneg ha hb, ?_⟩
  have h1 : a * b ≤ 1000000 * b := Int.mul_le_mul_of_nonneg_right (by omega) hb
  omega
theorem character_ok (w : World) (n p : Int) (hp : 2 ≤ p) (hp2 : p ≤ 1000000) : Fn PR 27 [.int .i64 n, .int .i64 p] w fun v w' => v = .int .i64 (chr n p) ∧ Ext w w' := by
  refine U27 ?_
  unfold P27_0
  rintro w1 rfl
  have hr := tmod_range n (show 0 < p by omega)
  refine ⟨by omega, _, rfl, wr (by omega) (by omega) ⟨by omega, _, rfl, wr (by omega) (by omega) ⟨by omega, _, rfl, ?_⟩⟩⟩
  rw [tmod_norm (by omega), tdiv_nn (by omega)]
  obtain ⟨r, h5, h6⟩ := wr (e := (p - 1) / 2) (p := fun r => r = (p - 1) / 2) (by omega) (by omega) rfl
  rw [h5, h6]
  have hn0 := Int.emod_nonneg n (show p ≠ 0 by omega)
  have hn1 := Int.emod_lt_of_pos n (show 0 < p by omega)
  refine J_loop (F := F27) hmx L27_0 (fun x : Int × Int × Int => [.int .i64 p, .int .i64 x.1, .int .i64 x.2.1, .int .i64 x.2.2])
    (fun x w' => (0 ≤ x.1 ∧ x.1 < p) ∧ (0 ≤ x.2.1 ∧ x.2.1 < p) ∧ (0 ≤ x.2.2 ∧ x.2.2 ≤ 1000000) ∧ x.1 * x.2.1 ^ x.2.2.toNat % p = (n % p) ^ ((p - 1) / 2).toNat % p ∧ Ext w w') (fun x _ => x.2.2.toNat) (1, n % p, (p - 1) / 2) rfl
    ⟨by simp; omega, ⟨hn0, hn1⟩, by simp; omega, by simp, Ext.drew w⟩ ?_
  rintro ⟨out, x, k⟩ w1 ⟨⟨ho, ho2⟩, ⟨hx, hx2⟩, ⟨hk, hk2⟩, he, hw⟩
  dsimp only at ho ho2 hx hx2 hk hk2 he
  refine (T27_L0 ..).mpr ?_
  simp only [P27_L0, setA_ret, setA_again, retQ_ret, if_true]
  have hb := mul_bound ho ho2 hx hx2 hp2
  have hxx := mul_bound hx hx2 hx hx2 hp2
  have hm := fun a : Int => Int.emod_nonneg a (show p ≠ 0 by omega)
  have hm2 := fun a : Int => Int.emod_lt_of_pos a (show 0 < p by omega)
  refine cnd_decide (fun h => ?_) (fun h => ?_)
  · have hf := fast (out := out) (x := x) (p := p) h
    refine rm (by omega) (by omega) (cnd_decide (fun hk1 => ?_) (fun hk1 => ?_))
    · refine wr (by omega) (by omega) (rm (by omega) (by omega) (wr (by omega) (by omega) (rm (by omega) (by omega) (qu (by omega) (by omega) (by omega) ?_))))
      refine ⟨(_, _, _), rfl, ⟨⟨hm _, hm2 _⟩, ⟨hm _, hm2 _⟩, by simp; omega, ?_, hw⟩, by simp; omega⟩
      show out * x % p * (x * x % p) ^ (k / 2).toNat % p = _
      rw [hf.1, k_odd h hk1, he]
    · refine wr (by omega) (by omega) (rm (by omega) (by omega) (qu (by omega) (by omega) (by omega) ?_))
      refine ⟨(_, _, _), rfl, ⟨⟨ho, ho2⟩, ⟨hm _, hm2 _⟩, by simp; omega, ?_, hw⟩, by simp; omega⟩
      show out * (x * x % p) ^ (k / 2).toNat % p = _
      rw [hf.2, k_even h hk1, he]
  · have hk0 : k = 0 := by omega
    subst hk0
    simp at he
    rw [Int.emod_eq_of_lt ho ho2] at he
    refine cnd_decide (fun h1 => ⟨?_, hw⟩) (fun h1 => ⟨?_, hw⟩)
    · unfold chr; rw [if_pos (by rw [← he]; exact h1)]
    · unfold chr; rw [if_neg (by rw [← he]; exact h1)]
theorem sized_ok (w : World) (n : Int) (hn : n.natAbs ≤ 9223372036854775807) : Fn PR 38 [.int .i64 n] w fun v w' => v = .int .i64 n.natAbs ∧ w = w' := by
  refine U38 ?_
  unfold P38_0
  refine wr (by omega) (by omega) ⟨?_, rfl⟩
  congr 1
  split <;> omega
theorem checkEquation_ok (w : World) (a b : Int) : Fn PR 10 [.int .i64 a, .int .i64 b] w fun v w' => v = .int .i64 (if a = 0 ∨ b = 0 then 6 else if a.natAbs ≤ 1000000 ∧ b.natAbs ≤ 1000000 then 0 else 1) ∧ w = w' := by
  refine U10 ?_
  unfold P10_0
  refine cnd_decide (fun h => ⟨by rw [if_pos (.inl h)], rfl⟩) (fun ha => ?_)
  refine cnd_decide (fun h => ⟨by rw [if_pos (.inr h)], rfl⟩) (fun hb => ?_)
  rw [if_neg (by omega)]
  refine cnd_decide (fun h => ⟨by rw [if_neg (by omega)], rfl⟩) (fun h1 => ?_)
  refine cnd_decide (fun h => ⟨by rw [if_neg (by omega)], rfl⟩) (fun h2 => ?_)
  refine cnd_decide (fun h => ⟨by rw [if_neg (by omega)], rfl⟩) (fun h3 => ?_)
  refine cnd_decide (fun h => ⟨by rw [if_neg (by omega)], rfl⟩) (fun h4 => ?_)
  exact ⟨by rw [if_pos (by omega)], rfl⟩
end Go.Proofs.Ythekpkamedjloaa
