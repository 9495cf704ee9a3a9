/- Plain arithmetic: primes, and the primes that trial division finds. -/
import Derived.Test.YthekpkamedjloaaM1
namespace Go.Proofs.Ythekpkamedjloaa

theorem isP_gcd {q a : Int} (hq : isP q) (h : a % q ≠ 0) : Int.gcd q a = 1 := by
  have h1 := hq.1
  have hd : ((Int.gcd q a : Nat) : Int) ∣ q := Int.gcd_dvd_left ..
  have hpos : 0 < Int.gcd q a := Int.gcd_pos_of_ne_zero_left _ (by omega)
  have hle : ((Int.gcd q a : Nat) : Int) ≤ q := Int.le_of_dvd (by omega) hd
  by_cases h2 : Int.gcd q a = 1
  · exact h2
  · exfalso
    by_cases h3 : ((Int.gcd q a : Nat) : Int) = q
    · apply h
      have : q ∣ a := by rw [← h3]; exact Int.gcd_dvd_right ..
      exact Int.emod_eq_zero_of_dvd this
    · exact isP_dvd hq (d := (Int.gcd q a : Nat)) (by omega) (by omega) (Int.emod_eq_zero_of_dvd hd)
/-- Euclid. -/
theorem isP_mul {q a b : Int} (hq : isP q) (h : a * b % q = 0) : a % q = 0 ∨ b % q = 0 := by
  by_cases ha : a % q = 0
  · exact .inl ha
  · refine .inr (Int.emod_eq_zero_of_dvd ?_)
    have h1 : q.natAbs ∣ a.natAbs * b.natAbs := by rw [← Int.natAbs_mul]; exact Int.natAbs_dvd_natAbs.2 (Int.dvd_of_emod_eq_zero h)
    exact Int.natAbs_dvd_natAbs.1 (Nat.Coprime.dvd_of_dvd_mul_left (isP_gcd hq ha) h1)
theorem isP_pow {q a : Int} (hq : isP q) : ∀ {e : Nat}, a ^ e % q = 0 → a % q = 0
  | 0, h => by
    have := hq.1
    simp only [Int.pow_zero] at h
    rw [Int.emod_eq_of_lt (by omega) (by omega)] at h
    omega
  | e + 1, h => by
    rw [Int.pow_succ] at h
    rcases isP_mul hq h with h | h
    · exact isP_pow hq h
    · exact h
theorem isP_isP {p q : Int} (hp : isP p) (hq : isP q) (h : p % q = 0) : p = q := by
  have h1 := hq.1
  have h2 := hp.1
  have hle : q ≤ p := Int.le_of_dvd (by omega) (Int.dvd_of_emod_eq_zero h)
  rcases Int.lt_or_le q p with hl | hl
  · exact absurd h (isP_dvd hp (by omega) hl)
  · omega
theorem mod_trans {a b c : Int} (h : a % b = 0) (k : b % c = 0) : a % c = 0 :=
  Int.emod_eq_zero_of_dvd (Int.dvd_trans (Int.dvd_of_emod_eq_zero k) (Int.dvd_of_emod_eq_zero h))

/-- What trial division from p on finds in n. -/
inductive Facs : Int → Int → List (Int × Int) → Prop where
  | one {p n : Int} : ¬ p * p ≤ n → ¬ 1 < n → Facs p n []
  | last {p n : Int} : ¬ p * p ≤ n → 1 < n → Facs p n [(n, 1)]
  | skip {p n : Int} {l : List (Int × Int)} : p * p ≤ n → n % p ≠ 0 → Facs (p + 1) n l → Facs p n l
  | take {p n u : Int} {e : Nat} {l : List (Int × Int)} : p * p ≤ n → n = u * p ^ e → 0 < e → u % p ≠ 0 → Facs (p + 1) u l → Facs p n ((p, (e : Int)) :: l)
theorem sq_le {p n : Int} (hp : 2 ≤ p) (h : p * p ≤ n) : 2 * p ≤ n := by
  have : 2 * p ≤ p * p := Int.mul_le_mul_of_nonneg_right hp (by omega)
  omega
theorem take_small {p n u : Int} {e : Nat} (hp : 2 ≤ p) (hn : 1 ≤ n) (h : n = u * p ^ e) : 1 ≤ u ∧ u ≤ n ∧ (0 < e → 2 * u ≤ n) := by
  have hpe := pow_ge hp e
  have hu : 1 ≤ u := by
    rcases Int.lt_or_le 0 u with h' | h'
    · omega
    · have : u * p ^ e ≤ 0 := Int.mul_nonpos_of_nonpos_of_nonneg h' (by omega)
      omega
  have h1 : u * 1 ≤ u * p ^ e := Int.mul_le_mul_of_nonneg_left (by omega) (by omega)
  refine ⟨hu, by omega, fun he => ?_⟩
  have : u * 2 ≤ u * p ^ e := Int.mul_le_mul_of_nonneg_left (by omega) (by omega)
  omega
theorem facs_exists : ∀ (m : Nat) (p n : Int), 2 ≤ p → 1 ≤ n → (n + 1 - p).toNat ≤ m → ∃ l, Facs p n l := by
  intro m
  induction m with
  | zero =>
    intro p n hp hn hm
    have h : ¬ p * p ≤ n := fun h => by have := sq_le hp h; omega
    by_cases h1 : 1 < n
    · exact ⟨_, .last h h1⟩
    · exact ⟨_, .one h h1⟩
  | succ m ih =>
    intro p n hp hn hm
    by_cases h : p * p ≤ n
    · have h2 := sq_le hp h
      by_cases h3 : n % p = 0
      · obtain ⟨h4, h5⟩ := spl_spec hp (show n ≠ 0 by omega)
        have he : 0 < (spl p n).1 := by
          rcases Nat.eq_zero_or_pos (spl p n).1 with h0 | h0
          · rw [h0] at h4; simp at h4; rw [← h4] at h5; exact absurd h3 h5
          · exact h0
        have h6 := take_small hp hn h4
        obtain ⟨l, hl⟩ := ih (p + 1) (spl p n).2 (by omega) h6.1 (by omega)
        exact ⟨_, .take h h4 he h5 hl⟩
      · obtain ⟨l, hl⟩ := ih (p + 1) n (by omega) hn (by omega)
        exact ⟨_, .skip h h3 hl⟩
    · by_cases h1 : 1 < n
      · exact ⟨_, .last h h1⟩
      · exact ⟨_, .one h h1⟩
/-- No divisor from 2 on below p. -/
def noDiv (p n : Int) : Prop := ∀ d, 2 ≤ d → d < p → n % d ≠ 0
theorem facs_spec {p n : Int} {l : List (Int × Int)} (h : Facs p n l) : 2 ≤ p → 1 ≤ n → noDiv p n → (∀ x ∈ l, isP x.1 ∧ n % x.1 = 0 ∧ p ≤ x.1 ∧ x.1 ≤ n ∧ 0 ≤ x.2 ∧ x.2 ≤ n) ∧ (∀ q, isP q → n % q = 0 → ∃ x ∈ l, x.1 = q) ∧ l.Pairwise (fun x y => x.1 < y.1) := by
  induction h with
  | one h1 h2 =>
    intro hp hn hd
    refine ⟨fun x hx => by (cases hx), fun q hq hm => ?_, List.Pairwise.nil⟩
    have := hq.1
    have := Int.le_of_dvd (by omega) (Int.dvd_of_emod_eq_zero hm)
    omega
  | @last p n h1 h2 =>
    intro hp hn hd
    have hP : isP n := ⟨h2, fun d hd2 hdd => hd d hd2 (by
      rcases Int.lt_or_le d p with h | h
      · exact h
      · have : p * p ≤ d * d := Int.le_trans (Int.mul_le_mul_of_nonneg_right h (by omega)) (Int.mul_le_mul_of_nonneg_left h (by omega))
        omega)⟩
    refine ⟨fun x hx => ?_, fun q hq hm => ⟨(n, 1), by simp, ?_⟩, List.pairwise_singleton _ _⟩
    · simp at hx; subst hx
      refine ⟨hP, by simp, ?_, by simp, by simp, by simpa using hn⟩
      show p ≤ n
      rcases Int.lt_or_le n p with h | h
      · exact absurd (by simp) (hd n (by omega) h)
      · exact h
    · exact isP_isP hP hq hm
  | @skip p n l h1 h2 hl ih =>
    intro hp hn hd
    obtain ⟨a, b, c⟩ := ih (by omega) hn (fun d h3 h4 => by
      by_cases e : d = p
      · subst e; exact h2
      · exact hd d h3 (by omega))
    exact ⟨fun x hx => by obtain ⟨i, j, k, m⟩ := a x hx; exact ⟨i, j, by omega, m⟩, b, c⟩
  | @take p n u e l h1 h2 h3 h4 hl ih =>
    intro hp hn hd
    have hs := take_small hp hn h2
    have hpn : n % p = 0 := by
      obtain ⟨e', rfl⟩ : ∃ e', e = e' + 1 := ⟨e - 1, by omega⟩
      rw [h2, Int.pow_succ, ← Int.mul_assoc]
      exact Int.mul_emod_left _ _
    have hun : n % u = 0 := by rw [h2]; exact Int.mul_emod_right _ _
    have hP : isP p := ⟨by omega, fun d hd2 hdd h0 => hd d hd2 (by
      have : d * 2 ≤ d * d := Int.mul_le_mul_of_nonneg_left hd2 (by omega)
      omega) (mod_trans hpn h0)⟩
    obtain ⟨a, b, c⟩ := ih (by omega) hs.1 (fun d h3' h4' h0 => by
      by_cases e : d = p
      · subst e; exact h4 h0
      · exact hd d h3' (by omega) (mod_trans hun h0))
    refine ⟨fun x hx => ?_, fun q hq hm => ?_, List.pairwise_cons.2 ⟨fun x hx => ?_, c⟩⟩
    · rcases List.mem_cons.1 hx with rfl | hx
      · refine ⟨hP, hpn, Int.le_refl _, ?_, by simp, ?_⟩
        · have := sq_le hp h1; show p ≤ n; omega
        · have h5 := pow_ge hp e
          have h6 : 1 * p ^ e ≤ u * p ^ e := Int.mul_le_mul_of_nonneg_right hs.1 (by omega)
          show (e : Int) ≤ n
          omega
      · obtain ⟨i, j, k, m, r, s⟩ := a x hx
        exact ⟨i, mod_trans hun j, by omega, by omega, r, by omega⟩
    · rw [h2] at hm
      rcases isP_mul hq hm with h | h
      · obtain ⟨x, hx, hxq⟩ := b q hq h
        exact ⟨x, List.mem_cons_of_mem _ hx, hxq⟩
      · exact ⟨_, List.mem_cons_self .., isP_isP hP hq (isP_pow hq h)⟩
    · have := (a x hx).2.2.1
      show p < x.1
      omega
theorem noDiv_two (n : Int) : noDiv 2 n := fun d h1 h2 => by omega
/-- Strictly rising lists with the same members are one. -/
theorem rising_eq : ∀ {l m : List Int}, l.Pairwise (· < ·) → m.Pairwise (· < ·) → (∀ x, x ∈ l ↔ x ∈ m) → l = m
  | [], [], _, _, _ => rfl
  | [], y :: m, _, _, h => by have := (h y).2 (List.mem_cons_self ..); cases this
  | x :: l, [], _, _, h => by have := (h x).1 (List.mem_cons_self ..); cases this
  | x :: l, y :: m, hl, hm, h => by
    obtain ⟨hx, hl'⟩ := List.pairwise_cons.1 hl
    obtain ⟨hy, hm'⟩ := List.pairwise_cons.1 hm
    clear hl hm
    have e : x = y := by
      rcases List.mem_cons.1 ((h x).1 (List.mem_cons_self ..)) with h1 | h1
      · exact h1
      · rcases List.mem_cons.1 ((h y).2 (List.mem_cons_self ..)) with h2 | h2
        · exact h2.symm
        · have := hy x h1; have := hx y h2; omega
    subst e
    refine congrArg (List.cons x) (rising_eq hl' hm' fun z => ?_)
    constructor
    · intro hz
      rcases List.mem_cons.1 ((h z).1 (List.mem_cons_of_mem _ hz)) with h1 | h1
      · have := hx z hz; omega
      · exact h1
    · intro hz
      rcases List.mem_cons.1 ((h z).2 (List.mem_cons_of_mem _ hz)) with h1 | h1
      · have := hy z hz; omega
      · exact h1
end Go.Proofs.Ythekpkamedjloaa
