import Derived.Test.YthekpkamedjloaaPd3
namespace Go.Proofs.Ythekpkamedjloaa
open Go.RowKit
theorem sg_even {n : Int} (h : n % 2 = 0) : sg n = 1 := by unfold sg; rw [if_pos h]
theorem sg_odd {n : Int} (h : n % 2 ≠ 0) : sg n = -1 := by unfold sg; rw [if_neg h]
/-- A test for evenness, both ways. -/
theorem cnd_even {n : Int} {x y : Prop} (h1 : n % 2 ≠ 0 → sg n = -1 → x) (h2 : n % 2 = 0 → sg n = 1 → y) : cnd (!decide (n % 2 = 0)) x y :=
  cnd_not (cnd_decide (fun h => h2 h (sg_even h)) (fun h => h1 h (sg_odd h)))
open Classical in
/-- The exported Symbol. -/
theorem Symbol_ok (w : World) (a b p : Int) : Fn PR 6 [.int .i64 a, .int .i64 b, .int .i64 p] w fun v w' => v = .tuple #[.int .i64 (if rng a b = 0 ∧ isPl p then sym a b p else 0), .int .i64 (if rng a b ≠ 0 then rng a b else if isPl p then 0 else 1)] ∧ Ext w w' := by
  refine U6 ?_
  unfold P6_0
  refine (check_ok w a b).use ?_
  rintro v w1 ⟨rfl, rfl⟩
  refine ⟨_, rfl, cnd_not (cnd_decide (fun h0 => ?_) (fun h0 => ?_))⟩
  · have hr : a ≠ 0 ∧ b ≠ 0 ∧ a.natAbs ≤ 1000000 ∧ b.natAbs ≤ 1000000 := by
      unfold rng at h0
      split at h0
      · cases h0
      · rename_i h1
        split at h0
        · rename_i h2; exact ⟨fun e => h1 (.inl e), fun e => h1 (.inr e), h2⟩
        · cases h0
    obtain ⟨ha, hb, ha2, hb2⟩ := hr
    have key : isPl p → Fn PR 13 [.int .i64 a, .int .i64 b, .int .i64 p] w fun v w' => v = .int .i64 (if rng a b = 0 ∧ isPl p then sym a b p else 0) ∧ Ext w w' := fun hpl => by
      rw [if_pos ⟨h0, hpl⟩]
      refine symbol_ok w a b p ha hb ha2 hb2 ?_
      rcases hpl with h | h
      · exact .inl h
      · exact .inr ⟨by have := h.2.1; omega, h.1⟩
    have e2 : isPl p → (if rng a b ≠ 0 then rng a b else if isPl p then 0 else 1) = 0 := fun hpl => by rw [if_neg (by simp [h0]), if_pos hpl]
    have e3 : ¬ isPl p → (if rng a b ≠ 0 then rng a b else if isPl p then 0 else 1) = 1 := fun hpl => by rw [if_neg (by simp [h0]), if_neg hpl]
    have e4 : ¬ isPl p → (if rng a b = 0 ∧ isPl p then sym a b p else 0) = 0 := fun hpl => by rw [if_neg (fun h => hpl h.2)]
    refine cnd_not (cnd_decide (fun hm => ?_) (fun hm => ?_))
    · have hpl : isPl p := .inl hm
      refine (key hpl).use ?_
      rintro v w1 ⟨rfl, hE⟩
      exact ⟨_, rfl, by rw [e2 hpl], hE⟩
    · refine cnd_decide (fun h1 => ?_) (fun h1 => cnd_decide (fun h2 => ?_) (fun h2 => ?_))
      · have : ¬ isPl p := fun h => h.elim hm (fun h => by have := h.2.1; omega)
        exact ⟨by rw [e3 this, e4 this], Ext.refl _⟩
      · have : ¬ isPl p := fun h => h.elim hm (fun h => by have := h.1; omega)
        exact ⟨by rw [e3 this, e4 this], Ext.refl _⟩
      · refine (isPrime_ok w p (by omega) (by omega)).use ?_
        rintro v w1 ⟨rfl, hE⟩
        refine ⟨_, rfl, cnd_not (cnd_decide (fun hP => ?_) (fun hP => ?_))⟩
        · have hpl : isPl p := .inr ⟨by omega, hP⟩
          have hk := key hpl
          refine (symbol_ok w1 a b p ha hb ha2 hb2 (.inr ⟨by omega, by omega⟩)).use ?_
          rintro v w2 ⟨rfl, hE2⟩
          exact ⟨_, rfl, by rw [e2 hpl, if_pos ⟨h0, hpl⟩], hE.trans hE2⟩
        · have : ¬ isPl p := fun h => h.elim hm (fun h => hP h.2)
          exact ⟨by rw [e3 this, e4 this], hE⟩
  · exact ⟨by rw [if_neg (fun h => h0 h.1), if_pos h0], Ext.refl _⟩
end Go.Proofs.Ythekpkamedjloaa
