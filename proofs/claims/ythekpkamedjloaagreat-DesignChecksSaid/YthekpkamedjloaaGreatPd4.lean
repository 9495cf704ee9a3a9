import Derived.Test.YthekpkamedjloaaGreatPd3
namespace Go.Proofs.YthekpkamedjloaaGreat
open Go.RowKit
theorem sg_even {n : Int} (h : n % 2 = 0) : sg n = 1 := by unfold sg; rw [if_pos h]
theorem sg_odd {n : Int} (h : n % 2 ≠ 0) : sg n = -1 := by unfold sg; rw [if_neg h]
theorem even_use {w : World} {n : Int} {K : Value → World → Prop} (h : ∀ b, (b = decide (n % 2 = 0)) → K (.bool b) w) : Fn PR 35 [.int .i64 n] w K :=
  (even_ok w n).use (by rintro v w' ⟨rfl, rfl⟩; exact h _ rfl)
/-- A test for evenness, both ways. -/
theorem cnd_even {n : Int} {x y : Prop} (h1 : n % 2 ≠ 0 → sg n = -1 → x) (h2 : n % 2 = 0 → sg n = 1 → y) : cnd (!decide (n % 2 = 0)) x y :=
  cnd_not (cnd_decide (fun h => h2 h (sg_even h)) (fun h => h1 h (sg_odd h)))
theorem rsym_ok (w : World) (a b p : Int) (ha : a ≠ 0) (hb : b ≠ 0) (ha2 : a.natAbs ≤ 1000000) (hb2 : b.natAbs ≤ 1000000) (hp : p = -1 ∨ (2 ≤ p ∧ p ≤ 1000000)) :
    Fn PR 12 [.int .i64 a, .int .i64 b, .int .i64 p] w fun v w' => v = .int .i64 (sym a b p) ∧ Ext w w' := by
  refine U12 ?_
  unfold P12_0
  refine cnd_decide (fun h => ?_) (fun h => ?_)
  · unfold sym
    rw [if_pos h]
    refine cnd_decide (fun h1 => cnd_decide (fun h2 => ⟨by rw [if_pos ⟨h1, h2⟩], Ext.refl _⟩) (fun h2 => ⟨by rw [if_neg (fun h3 => h2 h3.2)], Ext.refl _⟩)) (fun h1 => ⟨by rw [if_neg (fun h3 => h1 h3.1)], Ext.refl _⟩)
  · have hp' : 2 ≤ p ∧ p ≤ 1000000 := hp.resolve_left h
    refine (part_ok w a p hp'.1 ha ha2).use ?_
    rintro v w1 ⟨rfl, rfl⟩
    refine ⟨_, _, rfl, (part_ok w b p hp'.1 hb hb2).use ?_⟩
    rintro v w1 ⟨rfl, rfl⟩
    refine ⟨_, _, rfl, ?_⟩
    have hA := sym_bounds hp'.1 ha ha2
    have hB := sym_bounds hp'.1 hb hb2
    have eA := exp_bound hp'.1 ha ha2
    have eB := exp_bound hp'.1 hb hb2
    unfold sym
    rw [if_neg h]
    generalize hi : ((spl p a).1 : Int) = i at *
    generalize hj : ((spl p b).1 : Int) = j at *
    have hi0 : 0 ≤ i := by omega
    have hj0 : 0 ≤ j := by omega
    generalize (spl p a).2 = u at *
    generalize (spl p b).2 = x at *
    refine cnd_decide (fun h2 => ?_) (fun h2 => ?_)
    · subst h2
      simp only [if_true]
      have hu8 := odd_sq8 hA.2.2.2
      have hx8 := odd_sq8 hB.2.2.2
      have huq := sq_bound hA.2.1 hA.2.2.1
      have hxq := sq_bound hB.2.1 hB.2.2.1
      refine wr (by omega) (by omega) ⟨by omega, ?_⟩
      rw [half_exact hA.2.2.2]
      refine wr (by omega) (by omega) (wr (by omega) (by omega) ⟨by omega, ?_⟩)
      rw [half_exact hB.2.2.2]
      have h1 := prod_bound (a := (u - 1) / 2) (b := (x - 1) / 2) (A := 1000000) (B := 1000000) (by omega) (by omega) (by omega) (by omega)
      have h2 := prod_bound (a := i) (b := (x * x - 1) / 8) (A := 20) (B := 1000000000000) (by omega) (by omega) (by omega) (by omega)
      have h3 := prod_bound (a := j) (b := (u * u - 1) / 8) (A := 20) (B := 1000000000000) (by omega) (by omega) (by omega) (by omega)
      rw [sg_add, sg_add]
      refine wr (by omega) (by omega) (wr (by omega) (by omega) (even_use ?_))
      rintro _ rfl
      have B1 : ∀ {w : World} {K : Int → Prop}, K (i * ((x * x - 1) / 8)) → ∃ r, IntKind.i64.wrap (x * x) = r ∧ ∃ r', IntKind.i64.wrap (r - 1) = r' ∧ (8 : Int) ≠ 0 ∧ ∃ r2, IntKind.i64.wrap (r'.tdiv 8) = r2 ∧ ∃ r3, IntKind.i64.wrap (i * r2) = r3 ∧ K r3 := by
        intro _ K hK
        refine wr (by omega) (by omega) (wr (by omega) (by omega) ⟨by omega, ?_⟩)
        rw [tdiv_exact hx8]
        exact wr (by omega) (by omega) (wr (by omega) (by omega) hK)
      have C1 : ∀ {w : World} {K : Int → Prop}, K (j * ((u * u - 1) / 8)) → ∃ r, IntKind.i64.wrap (u * u) = r ∧ ∃ r', IntKind.i64.wrap (r - 1) = r' ∧ (8 : Int) ≠ 0 ∧ ∃ r2, IntKind.i64.wrap (r'.tdiv 8) = r2 ∧ ∃ r3, IntKind.i64.wrap (j * r2) = r3 ∧ K r3 := by
        intro _ K hK
        refine wr (by omega) (by omega) (wr (by omega) (by omega) ⟨by omega, ?_⟩)
        rw [tdiv_exact hu8]
        exact wr (by omega) (by omega) (wr (by omega) (by omega) hK)
      generalize (u - 1) / 2 * ((x - 1) / 2) = A at *
      generalize i * ((x * x - 1) / 8) = B at *
      generalize j * ((u * u - 1) / 8) = C at *
      refine ⟨_, rfl, cnd_even (fun _ hs1 => ?_) (fun _ hs1 => ?_)⟩ <;> rw [hs1]
      · refine wr (by omega) (by omega) (B1 (w := w) (even_use ?_))
        rintro _ rfl
        refine ⟨_, rfl, cnd_even (fun _ hs2 => ?_) (fun _ hs2 => ?_)⟩ <;> rw [hs2]
        · refine wr (by omega) (by omega) (C1 (w := w) (even_use ?_))
          rintro _ rfl
          refine ⟨_, rfl, cnd_even (fun _ hs3 => wr (by omega) (by omega) ⟨by rw [hs3]; rfl, Ext.refl _⟩) (fun _ hs3 => ⟨by rw [hs3]; rfl, Ext.refl _⟩)⟩
        · refine C1 (w := w) (even_use ?_)
          rintro _ rfl
          refine ⟨_, rfl, cnd_even (fun _ hs3 => wr (by omega) (by omega) ⟨by rw [hs3]; rfl, Ext.refl _⟩) (fun _ hs3 => ⟨by rw [hs3]; rfl, Ext.refl _⟩)⟩
      · refine B1 (w := w) (even_use ?_)
        rintro _ rfl
        refine ⟨_, rfl, cnd_even (fun _ hs2 => ?_) (fun _ hs2 => ?_)⟩ <;> rw [hs2]
        · refine wr (by omega) (by omega) (C1 (w := w) (even_use ?_))
          rintro _ rfl
          refine ⟨_, rfl, cnd_even (fun _ hs3 => wr (by omega) (by omega) ⟨by rw [hs3]; rfl, Ext.refl _⟩) (fun _ hs3 => ⟨by rw [hs3]; rfl, Ext.refl _⟩)⟩
        · refine C1 (w := w) (even_use ?_)
          rintro _ rfl
          refine ⟨_, rfl, cnd_even (fun _ hs3 => wr (by omega) (by omega) ⟨by rw [hs3]; rfl, Ext.refl _⟩) (fun _ hs3 => ⟨by rw [hs3]; rfl, Ext.refl _⟩)⟩
    · rw [if_neg h2]
      have h1 := prod_bound (a := i) (b := j) (A := 20) (B := 20) (by omega) (by omega) (by omega) (by omega)
      have h3 := prod_bound (a := i * j) (b := (p - 1) / 2) (A := 400) (B := 1000000) (by omega) (by omega) (by omega) (by omega)
      refine wr (by omega) (by omega) (wr (by omega) (by omega) (qu (by omega) (by omega) (by omega) (wr (by omega) (by omega) (even_use ?_))))
      rintro _ rfl
      have hodd : ∀ {n : Int}, 0 ≤ n → (n % 2 = 1 ↔ n % 2 ≠ 0) := by intro n _; omega
      -- what comes behind the sign s
      have hcu := chr_pm u p
      have hcx := chr_pm x p
      generalize i * j * ((p - 1) / 2) = A at *
      refine ⟨_, rfl, cnd_even (fun _ hs1 => ?_) (fun _ hs1 => ?_)⟩ <;> rw [hs1]
      · refine wr (by omega) (by omega) (even_use ?_)
        rintro _ rfl
        refine ⟨_, rfl, cnd_even (fun hj1 _ => ?_) (fun hj1 _ => ?_)⟩
        · rw [if_pos (show j % 2 = 1 by omega)]
          refine (legendre_ok w u p hp'.1 hp'.2).use ?_
          rintro v w1 ⟨rfl, rfl⟩
          refine ⟨_, rfl, wr (by omega) (by omega) (even_use ?_)⟩
          rintro _ rfl
          refine ⟨_, rfl, cnd_even (fun hi1 _ => ?_) (fun hi1 _ => ?_)⟩
          · rw [if_pos (show i % 2 = 1 by omega)]
            refine (legendre_ok w x p hp'.1 hp'.2).use ?_
            rintro v w1 ⟨rfl, rfl⟩
            have := pm_mul (pm_mul (show (0 - 1 : Int) = 1 ∨ (0 - 1 : Int) = -1 by omega) hcu) hcx
            exact ⟨_, rfl, wr (by omega) (by omega) ⟨by simp, Ext.refl _⟩⟩
          · rw [if_neg (show ¬ i % 2 = 1 by omega)]
            exact ⟨by simp, Ext.refl _⟩
        · rw [if_neg (show ¬ j % 2 = 1 by omega)]
          refine even_use ?_
          rintro _ rfl
          refine ⟨_, rfl, cnd_even (fun hi1 _ => ?_) (fun hi1 _ => ?_)⟩
          · rw [if_pos (show i % 2 = 1 by omega)]
            refine (legendre_ok w x p hp'.1 hp'.2).use ?_
            rintro v w1 ⟨rfl, rfl⟩
            exact ⟨_, rfl, wr (by omega) (by omega) ⟨by simp, Ext.refl _⟩⟩
          · rw [if_neg (show ¬ i % 2 = 1 by omega)]
            exact ⟨by simp, Ext.refl _⟩
      · refine even_use ?_
        rintro _ rfl
        refine ⟨_, rfl, cnd_even (fun hj1 _ => ?_) (fun hj1 _ => ?_)⟩
        · rw [if_pos (show j % 2 = 1 by omega)]
          refine (legendre_ok w u p hp'.1 hp'.2).use ?_
          rintro v w1 ⟨rfl, rfl⟩
          refine ⟨_, rfl, wr (by omega) (by omega) (even_use ?_)⟩
          rintro _ rfl
          refine ⟨_, rfl, cnd_even (fun hi1 _ => ?_) (fun hi1 _ => ?_)⟩
          · rw [if_pos (show i % 2 = 1 by omega)]
            refine (legendre_ok w x p hp'.1 hp'.2).use ?_
            rintro v w1 ⟨rfl, rfl⟩
            have := pm_mul hcu hcx
            exact ⟨_, rfl, wr (by rw [Int.one_mul]; omega) (by rw [Int.one_mul]; omega) ⟨by simp, Ext.refl _⟩⟩
          · rw [if_neg (show ¬ i % 2 = 1 by omega)]
            exact ⟨by simp, Ext.refl _⟩
        · rw [if_neg (show ¬ j % 2 = 1 by omega)]
          refine even_use ?_
          rintro _ rfl
          refine ⟨_, rfl, cnd_even (fun hi1 _ => ?_) (fun hi1 _ => ?_)⟩
          · rw [if_pos (show i % 2 = 1 by omega)]
            refine (legendre_ok w x p hp'.1 hp'.2).use ?_
            rintro v w1 ⟨rfl, rfl⟩
            exact ⟨_, rfl, wr (by omega) (by omega) ⟨by simp, Ext.refl _⟩⟩
          · rw [if_neg (show ¬ i % 2 = 1 by omega)]
            exact ⟨by simp, Ext.refl _⟩
open Classical in
/-- The exported Symbol. -/
theorem Symbol_ok (w : World) (a b p : Int) : Fn PR 6 [.int .i64 a, .int .i64 b, .int .i64 p] w fun v w' => v = .tuple #[.int .i64 (if rng a b = 0 ∧ isPl p then sym a b p else 0), .int .i64 (if rng a b ≠ 0 then rng a b else if isPl p then 0 else 1)] ∧ Ext w w' := by
  refine U6 ?_
  unfold P6_0
  refine (check_ok w a b).use ?_
  rintro v w1 ⟨rfl, rfl⟩
  refine ⟨_, rfl, cnd_not (cnd_decide (fun h0 => ?_) (fun h0 => ?_))⟩
  · have hr : a ≠ 0 ∧ b ≠ 0 ∧ a.natAbs ≤ 1000000 ∧ b.natAbs ≤ 1000000 := by
      unfold rng at h0
      split at h0
      · cases h0
      · rename_i h1
        split at h0
        · rename_i h2; exact ⟨fun e => h1 (.inl e), fun e => h1 (.inr e), h2⟩
        · cases h0
    obtain ⟨ha, hb, ha2, hb2⟩ := hr
    have key : isPl p → Fn PR 31 [.int .i64 a, .int .i64 b, .int .i64 p] w fun v w' => v = .int .i64 (if rng a b = 0 ∧ isPl p then sym a b p else 0) ∧ Ext w w' := fun hpl => by
      rw [if_pos ⟨h0, hpl⟩]
      refine symbol_ok w a b p ha hb ha2 hb2 ?_
      rcases hpl with h | h
      · exact .inl h
      · exact .inr ⟨by have := h.2.1; omega, h.1⟩
    have e2 : isPl p → (if rng a b ≠ 0 then rng a b else if isPl p then 0 else 1) = 0 := fun hpl => by rw [if_neg (by simp [h0]), if_pos hpl]
    have e3 : ¬ isPl p → (if rng a b ≠ 0 then rng a b else if isPl p then 0 else 1) = 1 := fun hpl => by rw [if_neg (by simp [h0]), if_neg hpl]
    have e4 : ¬ isPl p → (if rng a b = 0 ∧ isPl p then sym a b p else 0) = 0 := fun hpl => by rw [if_neg (fun h => hpl h.2)]
    refine cnd_not (cnd_decide (fun hm => ?_) (fun hm => ?_))
    · have hpl : isPl p := .inl hm
      refine (key hpl).use ?_
      rintro v w1 ⟨rfl, hE⟩
      exact ⟨_, rfl, by rw [e2 hpl], hE⟩
    · refine cnd_decide (fun h1 => ?_) (fun h1 => cnd_decide (fun h2 => ?_) (fun h2 => ?_))
      · have : ¬ isPl p := fun h => h.elim hm (fun h => by have := h.2.1; omega)
        exact ⟨by rw [e3 this, e4 this], Ext.refl _⟩
      · have : ¬ isPl p := fun h => h.elim hm (fun h => by have := h.1; omega)
        exact ⟨by rw [e3 this, e4 this], Ext.refl _⟩
      · refine (isPrime_ok w p (by omega) (by omega)).use ?_
        rintro v w1 ⟨rfl, hE⟩
        refine ⟨_, rfl, cnd_not (cnd_decide (fun hP => ?_) (fun hP => ?_))⟩
        · have hpl : isPl p := .inr ⟨by omega, hP⟩
          have hk := key hpl
          refine (symbol_ok w1 a b p ha hb ha2 hb2 (.inr ⟨by omega, by omega⟩)).use ?_
          rintro v w2 ⟨rfl, hE2⟩
          exact ⟨_, rfl, by rw [e2 hpl, if_pos ⟨h0, hpl⟩], hE.trans hE2⟩
        · have : ¬ isPl p := fun h => h.elim hm (fun h => hP h.2)
          exact ⟨by rw [e3 this, e4 this], hE⟩
  · exact ⟨by rw [if_neg (fun h => h0 h.1), if_pos h0], Ext.refl _⟩
end Go.Proofs.YthekpkamedjloaaGreat
