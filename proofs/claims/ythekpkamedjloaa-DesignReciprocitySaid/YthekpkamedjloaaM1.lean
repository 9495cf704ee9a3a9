/- Plain arithmetic for the symbols: valuations, squares' characters. -/
namespace Go.Proofs.Ythekpkamedjloaa

/-- How often p divides n, and what is left: n = u p^e, p does not divide u. -/
def splF (p : Int) : Nat → Int → Nat × Int
  | 0, n => (0, n)
  | f + 1, n => if n % p = 0 then ((splF p f (n / p)).1 + 1, (splF p f (n / p)).2) else (0, n)
def spl (p n : Int) : Nat × Int := splF p n.natAbs n
theorem splF_spec {p : Int} (hp : 2 ≤ p) : ∀ (f : Nat) (n : Int), n ≠ 0 → n.natAbs ≤ f → n = (splF p f n).2 * p ^ (splF p f n).1 ∧ (splF p f n).2 % p ≠ 0
  | 0, n, h0, hf => by omega
  | f + 1, n, h0, hf => by
    unfold splF
    by_cases h : n % p = 0
    · rw [if_pos h]
      have h1 : n / p * p = n := Int.ediv_mul_cancel (Int.dvd_of_emod_eq_zero h)
      have h2 : n / p ≠ 0 := by intro e; rw [e] at h1; omega
      have h3 : (n / p).natAbs * 2 ≤ n.natAbs := by
        have : n.natAbs = (n / p).natAbs * p.natAbs := by rw [← Int.natAbs_mul, h1]
        rw [this]
        exact Nat.mul_le_mul_left _ (by omega)
      have ih := splF_spec hp f (n / p) h2 (by omega)
      refine ⟨?_, ih.2⟩
      show n = (splF p f (n / p)).2 * p ^ ((splF p f (n / p)).1 + 1)
      rw [Int.pow_succ, ← Int.mul_assoc, ← ih.1, h1]
    · rw [if_neg h]
      exact ⟨by simp, h⟩
theorem spl_spec {p n : Int} (hp : 2 ≤ p) (h0 : n ≠ 0) : n = (spl p n).2 * p ^ (spl p n).1 ∧ (spl p n).2 % p ≠ 0 := splF_spec hp _ _ h0 (Nat.le_refl _)
theorem spl_unique {p : Int} (hp : 2 ≤ p) : ∀ {e e' : Nat} {u u' : Int}, u * p ^ e = u' * p ^ e' → u % p ≠ 0 → u' % p ≠ 0 → e = e' ∧ u = u'
  | 0, 0, u, u', h, _, _ => ⟨rfl, by simpa using h⟩
  | 0, e' + 1, u, u', h, hu, _ => by
    exfalso; apply hu
    have : u = u' * p ^ e' * p := by rw [Int.mul_assoc, ← Int.pow_succ, ← h]; simp
    rw [this]; exact Int.mul_emod_left _ _
  | e + 1, 0, u, u', h, _, hu' => by
    exfalso; apply hu'
    have : u' = u * p ^ e * p := by rw [Int.mul_assoc, ← Int.pow_succ, h]; simp
    rw [this]; exact Int.mul_emod_left _ _
  | e + 1, e' + 1, u, u', h, hu, hu' => by
    have h2 : u * p ^ e = u' * p ^ e' := by
      rw [Int.pow_succ, Int.pow_succ, ← Int.mul_assoc, ← Int.mul_assoc] at h
      exact Int.eq_of_mul_eq_mul_right (by omega) h
    obtain ⟨h1, h3⟩ := spl_unique hp h2 hu hu'
    exact ⟨by rw [h1], h3⟩
theorem spl_eq {p n u : Int} {e : Nat} (hp : 2 ≤ p) (h0 : n ≠ 0) (h : n = u * p ^ e) (hu : u % p ≠ 0) : spl p n = (e, u) := by
  obtain ⟨h1, h2⟩ := spl_spec hp h0
  obtain ⟨h3, h4⟩ := spl_unique hp (h1.symm.trans h) h2 hu
  exact Prod.ext h3 h4
theorem pow_ge {p : Int} (hp : 2 ≤ p) (e : Nat) : (e : Int) + 1 ≤ p ^ e := by
  induction e with
  | zero => simp
  | succ e ih =>
    rw [Int.pow_succ]
    have : p ^ e * 2 ≤ p ^ e * p := Int.mul_le_mul_of_nonneg_left hp (by omega)
    push_cast; omega
theorem spl_small {p n u : Int} {e : Nat} (hp : 2 ≤ p) (h0 : n ≠ 0) (h : n = u * p ^ e) : (e : Int) < n.natAbs ∧ u.natAbs ≤ n.natAbs ∧ u ≠ 0 := by
  have hu : u ≠ 0 := by intro e; subst e; simp at h; exact h0 h
  have hpe := pow_ge hp e
  have hn : n.natAbs = u.natAbs * (p ^ e).natAbs := by rw [h, Int.natAbs_mul]
  have h1 : ((p ^ e).natAbs : Int) = p ^ e := Int.natAbs_of_nonneg (by omega)
  have h2 : (p ^ e).natAbs ≤ n.natAbs := by rw [hn]; exact Nat.le_mul_of_pos_left _ (by omega)
  have h3 : u.natAbs ≤ n.natAbs := by rw [hn]; exact Nat.le_mul_of_pos_right _ (by omega)
  exact ⟨by omega, h3, hu⟩
/-- The character of n modulo p, by Euler. -/
def chr (n p : Int) : Int := if (n % p) ^ ((p - 1) / 2).toNat % p = 1 then 1 else -1
def sg (n : Int) : Int := if n % 2 = 0 then 1 else -1
theorem sg_add (a b : Int) : sg (a + b) = sg a * sg b := by
  unfold sg
  by_cases ha : a % 2 = 0 <;> by_cases hb : b % 2 = 0
  · rw [if_pos ha, if_pos hb, if_pos (by omega)]; rfl
  · rw [if_pos ha, if_neg hb, if_neg (by omega)]; rfl
  · rw [if_neg ha, if_pos hb, if_neg (by omega)]; rfl
  · rw [if_neg ha, if_neg hb, if_pos (by omega)]; rfl
/-- The symbol of a and b at a place. -/
def sym (a b p : Int) : Int :=
  if p = -1 then (if a < 0 ∧ b < 0 then -1 else 1)
  else
    let i : Int := (spl p a).1; let u := (spl p a).2; let j : Int := (spl p b).1; let w := (spl p b).2
    if p = 2 then sg ((u - 1) / 2 * ((w - 1) / 2) + i * ((w * w - 1) / 8) + j * ((u * u - 1) / 8))
    else sg (i * j * ((p - 1) / 2)) * (if j % 2 = 1 then chr u p else 1) * (if i % 2 = 1 then chr w p else 1)
/-- Prime numbers, by trial. -/
def isP (n : Int) : Prop := 1 < n ∧ ∀ d, 2 ≤ d → d * d ≤ n → n % d ≠ 0
theorem isP_dvd {n d : Int} (h : isP n) (hd : 2 ≤ d) (hdn : d < n) : n % d ≠ 0 := by
  intro h0
  obtain ⟨k, hk⟩ := Int.dvd_of_emod_eq_zero h0
  have hk0 : 0 < k := by
    rcases Int.lt_or_le 0 k with h | h'
    · exact h
    · have : d * k ≤ 0 := Int.mul_nonpos_of_nonneg_of_nonpos (by omega) h'
      have := h.1; omega
  have hk1 : k ≠ 1 := by intro e; subst e; omega
  rcases Int.le_total (d * d) n with hl | hl
  · exact h.2 d hd hl h0
  · have hkd : k ≤ d := by
      rcases Int.lt_or_le d k with h1 | h1
      · have : d * d < d * k := Int.mul_lt_mul_of_pos_left h1 (by omega)
        omega
      · exact h1
    refine h.2 k (by omega) ?_ ?_
    · calc k * k ≤ d * k := Int.mul_le_mul_of_nonneg_right hkd (by omega)
        _ = n := hk.symm
    · rw [hk]; exact Int.mul_emod_left _ _
end Go.Proofs.Ythekpkamedjloaa
