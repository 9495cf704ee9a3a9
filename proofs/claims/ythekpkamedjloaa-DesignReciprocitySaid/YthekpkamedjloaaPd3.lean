import Derived.Test.YthekpkamedjloaaPd2
namespace Go.Proofs.Ythekpkamedjloaa
open Go.RowKit
theorem facs_ne {p n : Int} {l : List (Int × Int)} (h : Facs p n l) : 1 < n → l ≠ [] := by
  induction h with
  | one _ h2 => intro h; exact absurd h h2
  | last => intro _ h; cases h
  | skip _ _ _ ih => exact ih
  | take => intro _ h; cases h
theorem facs_head {n : Int} {x : Int × Int} {l xs : List (Int × Int)} (hn : 2 ≤ n) (h : Facs 2 n xs) (hx : xs = x :: l) : (x.1 = n ↔ isP n) := by
  obtain ⟨a, b, c⟩ := facs_spec h (by omega) (by omega) (noDiv_two n)
  subst hx
  have ha := a x (List.mem_cons_self ..)
  constructor
  · intro e; rw [← e]; exact ha.1
  · intro hP
    exact (isP_isP hP ha.1 ha.2.1).symm
open Classical in
theorem isPrime_ok (w : World) (n : Int) (hn : 2 ≤ n) (hn2 : n ≤ 1000000) : Fn PR 12 [.int .i64 n] w fun v w' => v = .bool (decide (isP n)) ∧ Ext w w' := by
  refine U12 (Holds.ext (Nat.le_refl _)) ?_
  unfold P12_0
  rintro b1 w1 rfl rfl b3 w3 rfl rfl
  have hb1 := Box.new w (.int .i64 n) 2
  have hb1' := hb1.ext (Ext.alloc _ (.cells #[.bool false] 4))
  have hb3 := Box.new (w.alloc (.cells #[.int .i64 n] 2)) (.bool false) 4
  have hE : Ext w ((w.alloc (.cells #[.int .i64 n] 2)).alloc (.cells #[.bool false] 4)) := (Ext.alloc _ _).trans (Ext.alloc _ _)
  have hs0 : (w.alloc (.cells #[.int .i64 n] 2)).heap.size = w.heap.size + 1 := by simp
  generalize (w.alloc (.cells #[.int .i64 n] 2)).heap.size = c3 at *
  generalize (w.alloc (.cells #[.int .i64 n] 2)).alloc (.cells #[.bool false] 4) = w3 at *
  refine ⟨n, hb1'.cell, (factors_ok w3 n).use ?_⟩
  rintro v w4 ⟨b, rfl, hbw, hb, hE4⟩
  refine ⟨_, _, _, rfl, ?_⟩
  obtain ⟨xs, hx⟩ := facs_exists (n + 1 - 2).toNat 2 n (by omega) (by omega) (Nat.le_refl _)
  have hx' : Facs 2 (n.natAbs : Int) xs := by rw [show (n.natAbs : Int) = n by omega]; exact hx
  have hwb : w3.heap.size ≤ w4.heap.size := hE4.size
  have hww : w.heap.size ≤ w4.heap.size := Nat.le_trans hE.size hwb
  refine J_rangeE (F := F12) hmx rfl L12_0 encF (fun _ => rfl) (lb := [.pointer (some (bl b))]) rfl xs
    (fun pre W => pre = [] ∧ Box W w.heap.size (.int .i64 n) ∧ Box W c3 (.bool false) ∧ Ext w W)
    (fun pre W => Box W c3 (.bool (decide (isP n))) ∧ Ext w W) (fun _ _ _ => False)
    (fun pre => (Own.pure _).and ((Own.box _ _).and ((Own.box _ _).and (Own.ext hww)))) (fun pre => (Own.box _ _).and (Own.ext hww)) (fun _ _ => Own.false)
    ⟨rfl, hb1'.ext hE4, hb3.ext hE4, hE.trans hE4⟩ (factors_iter w4 n b (by omega) (by omega) hb xs hx' _) ?_ ?_ ?_ (fun _ _ _ h => h.elim)
  · rintro pre x w5 hpre ⟨rfl, h1, h3, h5⟩ _
    refine (T12_R0 ..).mpr ?_
    simp only [P12_R0, rndQ_rret]
    refine ⟨n, h1.cell, h3.set fun w6 hb6 hg => ?_⟩
    have hxl : ∃ l, xs = x :: l := by
      obtain ⟨l, hl⟩ := hpre
      exact ⟨l, by simpa using hl.symm⟩
    obtain ⟨l, hxl⟩ := hxl
    have := facs_head hn hx hxl
    refine ⟨?_, h5.chg hg (by intro k hk; cases hk; omega)⟩
    rw [show decide (isP n) = decide (x.1 = n) from decide_eq_decide.2 this.symm]
    exact hb6
  · rintro w5 ⟨h, _⟩
    exact absurd h (facs_ne hx (by omega))
  · rintro pre w5 ⟨h1, h2⟩
    refine (T12_X0 ..).mpr ?_
    exact ⟨_, h1.cell, rfl, h2⟩
open Classical in
theorem prime_ok (w : World) (n : Int) (hn2 : n ≤ 1000000) : Fn PR 14 [.int .i64 n] w fun v w' => v = .bool (decide (isP n)) ∧ w = w' := by
  refine U14 ?_
  unfold P14_0
  refine J_loop (F := F14) hmx L14_0 (fun d : Int => [.int .i64 n, .int .i64 d]) (fun d w' => (2 ≤ d ∧ d ≤ 1000001) ∧ (∀ e, 2 ≤ e → e < d → e * e ≤ n → n % e ≠ 0) ∧ w = w') (fun d _ => (1000002 - d).toNat) 2 rfl ⟨by omega, fun e h1 h2 => by omega, rfl⟩ ?_
  rintro d w1 ⟨⟨hd, hd2⟩, hall, rfl⟩
  refine (T14_L0 ..).mpr ?_
  simp only [P14_L0, setA_ret, setA_again, retQ_ret, if_true]
  have hpp : 0 ≤ d * d ∧ d * d ≤ 1000001 * 1000001 := ⟨Int.mul_nonneg (by omega) (by omega), Int.le_trans (Int.mul_le_mul_of_nonneg_right hd2 (by omega)) (Int.mul_le_mul_of_nonneg_left hd2 (by omega))⟩
  refine wr (by omega) (by omega) (cnd_decide (fun hle => ?_) (fun hgt => ?_))
  · have h2 := sq_le hd hle
    refine ⟨by omega, _, rfl, cnd_decide (fun h => ?_) (fun h => ?_)⟩
    · refine ⟨?_, by trivial⟩
      congr 1
      rw [eq_comm, decide_eq_false_iff_not]
      exact fun hP => hP.2 d hd hle (tmod_zero.1 h)
    · refine wr (by omega) (by omega) ⟨d + 1, rfl, ⟨by omega, fun e h1 h3 h4 => ?_, by trivial⟩, by omega⟩
      by_cases e1 : e = d
      · subst e1; exact fun h' => h (tmod_zero.2 h')
      · exact hall e h1 (by omega) h4
  · refine ⟨?_, by trivial⟩
    congr 1
    refine decide_eq_decide.2 ⟨fun h => ⟨h, fun e h1 h3 => hall e h1 ?_ h3⟩, fun h => h.1⟩
    rcases Int.lt_or_le e d with h4 | h4
    · exact h4
    · have : d * d ≤ e * e := Int.le_trans (Int.mul_le_mul_of_nonneg_right h4 (by omega)) (Int.mul_le_mul_of_nonneg_left h4 (by omega))
      omega
def rng (a b : Int) : Int := if a = 0 ∨ b = 0 then 6 else if a.natAbs ≤ 1000000 ∧ b.natAbs ≤ 1000000 then 0 else 1
theorem check_ok (w : World) (a b : Int) : Fn PR 10 [.int .i64 a, .int .i64 b] w fun v w' => v = .int .i64 (rng a b) ∧ w = w' := checkEquation_ok w a b
def isPl (p : Int) : Prop := p = -1 ∨ (p ≤ 1000000 ∧ isP p)
open Classical in
theorem isPlace_ok (w : World) (p : Int) : Fn PR 7 [.int .i64 p] w fun v w' => v = .bool (decide (isPl p)) ∧ w = w' := by
  refine U7 ?_
  unfold P7_0
  refine cnd_decide (fun h => ⟨?_, rfl⟩) (fun h => cnd_decide (fun h2 => ?_) (fun h2 => ⟨?_, rfl⟩))
  · congr 1; rw [eq_comm, decide_eq_true_eq]; exact .inl h
  · refine (prime_ok w p h2).use ?_
    rintro v w1 ⟨rfl, rfl⟩
    refine ⟨_, rfl, ?_, rfl⟩
    congr 1
    exact decide_eq_decide.2 ⟨fun h3 => .inr ⟨h2, h3⟩, fun h3 => h3.elim (fun h4 => absurd h4 h) (fun h4 => h4.2)⟩
  · congr 1; rw [eq_comm, decide_eq_false_iff_not]; exact fun h3 => h3.elim h (fun h4 => h2 h4.1)
/-! ### Symbols -/
theorem chr_pm (n p : Int) : chr n p = 1 ∨ chr n p = -1 := by unfold chr; split <;> simp
theorem sg_pm (n : Int) : sg n = 1 ∨ sg n = -1 := by unfold sg; split <;> simp
theorem odd_sq8 {u : Int} (h : u % 2 ≠ 0) : (u * u - 1) % 8 = 0 := by
  have h8 : (u * u) % 8 = ((u % 8) * (u % 8)) % 8 := Int.mul_emod ..
  have : u % 8 = 1 ∨ u % 8 = 3 ∨ u % 8 = 5 ∨ u % 8 = 7 := by omega
  rcases this with h1 | h1 | h1 | h1 <;> rw [h1] at h8 <;> omega
/-- The numbers of a symbol are small. -/
theorem sym_bounds {p n : Int} (hp : 2 ≤ p) (h0 : n ≠ 0) (hn : n.natAbs ≤ 1000000) : ((spl p n).1 : Int) ≤ 1000000 ∧ -1000000 ≤ (spl p n).2 ∧ (spl p n).2 ≤ 1000000 ∧ (spl p n).2 % p ≠ 0 := by
  obtain ⟨h1, h2⟩ := spl_spec hp h0
  obtain ⟨h3, h4, h5⟩ := spl_small hp h0 h1
  exact ⟨by omega, by omega, by omega, h2⟩
theorem sq_bound {u : Int} (h1 : -1000000 ≤ u) (h2 : u ≤ 1000000) : 0 ≤ u * u ∧ u * u ≤ 1000000000000 := by
  constructor
  · rcases Int.le_total 0 u with h | h
    · exact Int.mul_nonneg h h
    · exact Int.mul_nonneg_of_nonpos_of_nonpos h h
  · have : (u * u).natAbs ≤ 1000000 * 1000000 := by rw [Int.natAbs_mul]; exact Nat.mul_le_mul (by omega) (by omega)
    omega
theorem exp_bound {p n : Int} (hp : 2 ≤ p) (h0 : n ≠ 0) (hn : n.natAbs ≤ 1000000) : ((spl p n).1 : Int) ≤ 20 := by
  obtain ⟨h1, h2⟩ := spl_spec hp h0
  rcases Nat.lt_or_ge 20 (spl p n).1 with h | h
  · exfalso
    have h5 := (spl_small hp h0 h1).2.2
    have h3 : (2 : Int) ^ 20 ≤ p ^ (spl p n).1 := by
      have h6 : (2 : Int) ^ (spl p n).1 ≤ p ^ (spl p n).1 := by
        generalize (spl p n).1 = m
        induction m with
        | zero => simp
        | succ m ih => rw [Int.pow_succ, Int.pow_succ]; exact Int.mul_le_mul ih hp (by omega) (by have := pow_ge hp m; omega)
      have h7 : (2 : Int) ^ 20 ≤ 2 ^ (spl p n).1 := by
        obtain ⟨d, hd⟩ : ∃ d, (spl p n).1 = 20 + d := ⟨(spl p n).1 - 20, by omega⟩
        rw [hd, Int.pow_add]
        have := pow_ge (show (2 : Int) ≤ 2 by omega) d
        have : (2 : Int) ^ 20 * 1 ≤ 2 ^ 20 * 2 ^ d := Int.mul_le_mul_of_nonneg_left (by omega) (by simp)
        omega
      omega
    have h8 : n.natAbs = (spl p n).2.natAbs * (p ^ (spl p n).1).natAbs := by
      have := congrArg Int.natAbs h1
      rwa [Int.natAbs_mul] at this
    have h9 : (p ^ (spl p n).1).natAbs ≤ n.natAbs := by rw [h8]; exact Nat.le_mul_of_pos_left _ (by omega)
    have : (2 : Int) ^ 20 = 1048576 := by decide
    omega
  · omega
theorem pm_mul {a b : Int} (ha : a = 1 ∨ a = -1) (hb : b = 1 ∨ b = -1) : (a * b = 1 ∨ a * b = -1) := by
  rcases ha with rfl | rfl <;> rcases hb with rfl | rfl <;> simp
theorem half_exact {u : Int} (h : u % 2 ≠ 0) : (u - 1).tdiv 2 = (u - 1) / 2 := tdiv_exact (by omega)
theorem prod_bound {a b A B : Int} (ha : -A ≤ a) (ha2 : a ≤ A) (hb : -B ≤ b) (hb2 : b ≤ B) : -(A * B) ≤ a * b ∧ a * b ≤ A * B := by
  have h : (a * b).natAbs ≤ A.natAbs * B.natAbs := by rw [Int.natAbs_mul]; exact Nat.mul_le_mul (by omega) (by omega)
  have e : ((A.natAbs * B.natAbs : Nat) : Int) = A * B := by push_cast; rw [Int.natAbs_of_nonneg (show 0 ≤ A by omega), Int.natAbs_of_nonneg (show 0 ≤ B by omega)]
  omega
theorem symbol_ok (w : World) (a b p : Int) (ha : a ≠ 0) (hb : b ≠ 0) (ha2 : a.natAbs ≤ 1000000) (hb2 : b.natAbs ≤ 1000000) (hp : p = -1 ∨ (2 ≤ p ∧ p ≤ 1000000)) :
    Fn PR 13 [.int .i64 a, .int .i64 b, .int .i64 p] w fun v w' => v = .int .i64 (sym a b p) ∧ Ext w w' := by
  refine U13 ?_
  unfold P13_0
  refine cnd_decide (fun h => ?_) (fun h => ?_)
  · unfold sym
    rw [if_pos h]
    refine cnd_decide (fun h1 => cnd_decide (fun h2 => ⟨by rw [if_pos ⟨h1, h2⟩], Ext.refl _⟩) (fun h2 => ⟨by rw [if_neg (fun h3 => h2 h3.2)], Ext.refl _⟩)) (fun h1 => ⟨by rw [if_neg (fun h3 => h1 h3.1)], Ext.refl _⟩)
  · have hp' : 2 ≤ p ∧ p ≤ 1000000 := hp.resolve_left h
    refine (split_ok w a p hp'.1 ha ha2).use ?_
    rintro v w1 ⟨rfl, rfl⟩
    refine ⟨_, _, rfl, (split_ok w b p hp'.1 hb hb2).use ?_⟩
    rintro v w1 ⟨rfl, rfl⟩
    refine ⟨_, _, rfl, ?_⟩
    have hA := sym_bounds hp'.1 ha ha2
    have hB := sym_bounds hp'.1 hb hb2
    have eA := exp_bound hp'.1 ha ha2
    have eB := exp_bound hp'.1 hb hb2
    unfold sym
    rw [if_neg h]
    generalize hi : ((spl p a).1 : Int) = i at *
    generalize hj : ((spl p b).1 : Int) = j at *
    have hi0 : 0 ≤ i := by omega
    have hj0 : 0 ≤ j := by omega
    generalize (spl p a).2 = u at *
    generalize (spl p b).2 = x at *
    refine cnd_decide (fun h2 => ?_) (fun h2 => ?_)
    · subst h2
      simp only [if_true]
      have hu8 := odd_sq8 hA.2.2.2
      have hx8 := odd_sq8 hB.2.2.2
      have huq := sq_bound hA.2.1 hA.2.2.1
      have hxq := sq_bound hB.2.1 hB.2.2.1
      refine wr (by omega) (by omega) ⟨by omega, ?_⟩
      rw [half_exact hA.2.2.2]
      refine wr (by omega) (by omega) (wr (by omega) (by omega) ⟨by omega, ?_⟩)
      rw [half_exact hB.2.2.2]
      have h1 := prod_bound (a := (u - 1) / 2) (b := (x - 1) / 2) (A := 1000000) (B := 1000000) (by omega) (by omega) (by omega) (by omega)
      have h2 := prod_bound (a := i) (b := (x * x - 1) / 8) (A := 20) (B := 1000000000000) (by omega) (by omega) (by omega) (by omega)
      have h3 := prod_bound (a := j) (b := (u * u - 1) / 8) (A := 20) (B := 1000000000000) (by omega) (by omega) (by omega) (by omega)
      refine wr (by omega) (by omega) (wr (by omega) (by omega) (wr (by omega) (by omega) (wr (by omega) (by omega) ⟨by omega, ?_⟩)))
      rw [tdiv_exact hx8]
      refine wr (by omega) (by omega) (wr (by omega) (by omega) (wr (by omega) (by omega) (wr (by omega) (by omega) (wr (by omega) (by omega) ⟨by omega, ?_⟩))))
      rw [tdiv_exact hu8]
      refine wr (by omega) (by omega) (wr (by omega) (by omega) (wr (by omega) (by omega) ((sign_ok ..).use ?_)))
      rintro v w1 ⟨rfl, rfl⟩
      exact ⟨_, rfl, rfl, Ext.refl _⟩
    · rw [if_neg h2]
      have h1 := prod_bound (a := i) (b := j) (A := 20) (B := 20) (by omega) (by omega) (by omega) (by omega)
      have h3 := prod_bound (a := i * j) (b := (p - 1) / 2) (A := 400) (B := 1000000) (by omega) (by omega) (by omega) (by omega)
      refine wr (by omega) (by omega) (wr (by omega) (by omega) (qu (by omega) (by omega) (by omega) (wr (by omega) (by omega) ((sign_ok ..).use ?_))))
      rintro v w1 ⟨rfl, rfl⟩
      have hs := sg_pm (i * j * ((p - 1) / 2))
      generalize sg (i * j * ((p - 1) / 2)) = s at *
      refine ⟨_, rfl, rm (by omega) hj0 (cnd_decide (fun h4 => ?_) (fun h4 => ?_))⟩
      · rw [if_pos h4]
        refine (character_ok w u p hp'.1 hp'.2).use ?_
        rintro v w1 ⟨rfl, hE⟩
        have hc := chr_pm u p
        have hsc := pm_mul hs hc
        refine ⟨_, rfl, wr (by omega) (by omega) (rm (by omega) hi0 (cnd_decide (fun h5 => ?_) (fun h5 => ?_)))⟩
        · rw [if_pos h5]
          refine (character_ok w1 x p hp'.1 hp'.2).use ?_
          rintro v w2 ⟨rfl, hE2⟩
          have := pm_mul hsc (chr_pm x p)
          exact ⟨_, rfl, wr (by omega) (by omega) ⟨rfl, hE.trans hE2⟩⟩
        · rw [if_neg h5]
          exact ⟨by simp, hE⟩
      · rw [if_neg h4]
        refine rm (by omega) hi0 (cnd_decide (fun h5 => ?_) (fun h5 => ?_))
        · rw [if_pos h5]
          refine (character_ok w x p hp'.1 hp'.2).use ?_
          rintro v w2 ⟨rfl, hE2⟩
          have := pm_mul hs (chr_pm x p)
          exact ⟨_, rfl, wr (by omega) (by omega) ⟨by simp, hE2⟩⟩
        · rw [if_neg h5]
          exact ⟨by simp, Ext.refl _⟩
end Go.Proofs.Ythekpkamedjloaa
