/- Plain arithmetic: Fermat, and the laws of the symbols. -/
import Derived.Test.YthekpkamedjloaaM2
namespace Go.Proofs.Ythekpkamedjloaa

theorem perm_of_sub {α : Type} [DecidableEq α] : ∀ (l m : List α), l.Nodup → (∀ x ∈ l, x ∈ m) → m.length ≤ l.length → l.Perm m
  | [], m, _, _, h => by
    have : m = [] := List.eq_nil_of_length_eq_zero (by simpa using h)
    rw [this]
  | x :: l, m, hn, hs, hl => by
    have hx : x ∈ m := hs x (List.mem_cons_self ..)
    have hp : m.Perm (x :: m.erase x) := List.perm_cons_erase hx
    rw [List.nodup_cons] at hn
    have ih := perm_of_sub l (m.erase x) hn.2 (fun y hy => (List.mem_erase_of_ne (fun e => hn.1 (by rw [← e]; exact hy))).2 (hs y (List.mem_cons_of_mem _ hy))) (by
      rw [List.length_erase_of_mem hx]
      simp at hl
      omega)
    exact (ih.cons x).trans hp.symm
def prd (l : List Int) : Int := l.foldr (· * ·) 1
theorem prd_cons (x : Int) (l : List Int) : prd (x :: l) = x * prd l := rfl
theorem prd_append (l m : List Int) : prd (l ++ m) = prd l * prd m := by
  induction l with
  | nil => simp [prd]
  | cons x l ih => rw [List.cons_append, prd_cons, prd_cons, ih, Int.mul_assoc]
theorem prd_perm {l m : List Int} (h : l.Perm m) : prd l = prd m := by
  induction h with
  | nil => rfl
  | cons x _ ih => rw [prd_cons, prd_cons, ih]
  | swap x y l => rw [prd_cons, prd_cons, prd_cons, prd_cons, Int.mul_left_comm]
  | trans _ _ ih1 ih2 => rw [ih1, ih2]
theorem prd_ones {l : List Int} (h : ∀ x ∈ l, x = 1) : prd l = 1 := by
  induction l with
  | nil => rfl
  | cons x l ih => rw [prd_cons, h x (List.mem_cons_self ..), ih (fun y hy => h y (List.mem_cons_of_mem _ hy))]; rfl
theorem prd_mul {α : Type} (l : List α) (f g : α → Int) : prd (l.map fun x => f x * g x) = prd (l.map f) * prd (l.map g) := by
  induction l with
  | nil => rfl
  | cons x l ih =>
    simp only [List.map_cons, prd_cons, ih]
    rw [Int.mul_assoc, Int.mul_assoc, Int.mul_left_comm (g x)]
theorem prd_map_mod (a p : Int) : ∀ L : List Int, prd (L.map fun y => a * y % p) % p = a ^ L.length * prd L % p
  | [] => by simp [prd]
  | y :: L => by
    rw [List.map_cons, prd_cons, prd_cons, List.length_cons, Int.pow_succ]
    rw [Int.mul_emod, Int.emod_emod, prd_map_mod a p L, ← Int.mul_emod]
    congr 1
    grind
theorem prd_ne {p : Int} (hp : isP p) : ∀ L : List Int, (∀ y ∈ L, y % p ≠ 0) → prd L % p ≠ 0
  | [], _ => by
    have := hp.1
    show (1 : Int) % p ≠ 0
    rw [Int.emod_eq_of_lt (by omega) (by omega)]
    omega
  | y :: L, h => by
    rw [prd_cons]
    intro h0
    rcases isP_mul hp h0 with h1 | h1
    · exact h y (List.mem_cons_self ..) h1
    · exact prd_ne hp L (fun z hz => h z (List.mem_cons_of_mem _ hz)) h1
/-- Fermat. -/
theorem fermat {p a : Int} (hp : isP p) (ha : a % p ≠ 0) : a ^ (p - 1).toNat % p = 1 := by
  have h1 := hp.1
  obtain ⟨L, hL⟩ : ∃ L : List Int, L = (List.range (p - 1).toNat).map fun i : Nat => (i : Int) + 1 := ⟨_, rfl⟩
  have hmem : ∀ y, y ∈ L ↔ 1 ≤ y ∧ y < p := by
    intro y
    rw [hL, List.mem_map]
    constructor
    · rintro ⟨i, hi, rfl⟩
      rw [List.mem_range] at hi
      omega
    · rintro ⟨h2, h3⟩
      exact ⟨(y - 1).toNat, List.mem_range.2 (by omega), by omega⟩
  have hlen : L.length = (p - 1).toNat := by rw [hL]; simp
  have hnd : L.Nodup := by
    rw [hL, List.nodup_iff_pairwise_ne]
    exact List.pairwise_map.2 (List.pairwise_lt_range.imp fun h => by omega)
  have hne : ∀ y ∈ L, y % p ≠ 0 := fun y hy => by
    have := (hmem y).1 hy
    rw [Int.emod_eq_of_lt (by omega) (by omega)]
    omega
  have hperm : (L.map fun y => a * y % p).Perm L := by
    refine perm_of_sub _ _ ?_ ?_ (by simp)
    · rw [List.nodup_iff_pairwise_ne] at hnd ⊢
      refine List.pairwise_map.2 (hnd.imp_of_mem fun {y z} hy hz hyz e => hyz ?_)
      have b1 := (hmem y).1 hy
      have b2 := (hmem z).1 hz
      have h0 : a * (y - z) % p = 0 := by
        rw [Int.mul_sub]
        exact Int.emod_emod_of_dvd _ (Int.dvd_refl p) ▸ (by rw [Int.sub_emod, e, Int.sub_self]; simp)
      rcases isP_mul hp h0 with h | h
      · exact absurd h ha
      · obtain ⟨k, hk⟩ := Int.dvd_of_emod_eq_zero h
        have k1 : k < 1 := by
          rcases Int.lt_or_le k 1 with h | h
          · exact h
          · have : p * 1 ≤ p * k := Int.mul_le_mul_of_nonneg_left h (by omega)
            omega
        have k2 : -1 < k := by
          rcases Int.lt_or_le (-1) k with h | h
          · exact h
          · have : p * k ≤ p * (-1) := Int.mul_le_mul_of_nonneg_left h (by omega)
            omega
        have : k = 0 := by omega
        subst this
        omega
    · intro x hx
      obtain ⟨y, hy, rfl⟩ := List.mem_map.1 hx
      have m1 := Int.emod_nonneg (a * y) (show p ≠ 0 by omega)
      have m2 := Int.emod_lt_of_pos (a * y) (show 0 < p by omega)
      have m3 : a * y % p ≠ 0 := fun h => (isP_mul hp h).elim ha (hne y hy)
      exact (hmem _).2 ⟨by omega, m2⟩
  have e1 := prd_map_mod a p L
  rw [prd_perm hperm, hlen] at e1
  have e2 : (a ^ (p - 1).toNat - 1) * prd L % p = 0 := by
    rw [Int.sub_mul, Int.one_mul, Int.sub_emod, ← e1, Int.sub_self]
    simp
  rcases isP_mul hp e2 with h | h
  · have : (a ^ (p - 1).toNat) % p = 1 % p := by
      have := Int.emod_emod_of_dvd (a ^ (p - 1).toNat - 1) (Int.dvd_refl p)
      exact (Int.emod_eq_emod_iff_emod_sub_eq_zero).2 h
    rw [this, Int.emod_eq_of_lt (by omega) (by omega)]
  · exact absurd h (prd_ne hp L hne)
theorem pow_emod (n p : Int) : ∀ k : Nat, (n % p) ^ k % p = n ^ k % p
  | 0 => by simp
  | k + 1 => by rw [Int.pow_succ, Int.pow_succ, Int.mul_emod, Int.emod_emod, pow_emod n p k, ← Int.mul_emod]
/-! ### The character -/
def half (p : Int) : Nat := ((p - 1) / 2).toNat
/-- s is 1 or -1, and n to the power of half of p - 1 is s. -/
def isE (n p s : Int) : Prop := (s = 1 ∨ s = -1) ∧ (n ^ half p - s) % p = 0
theorem isE_unique {n p s t : Int} (hp : 3 ≤ p) (h : isE n p s) (k : isE n p t) : s = t := by
  have h0 : (t - s) % p = 0 := by
    have : t - s = (n ^ half p - s) - (n ^ half p - t) := by omega
    rw [this, Int.sub_emod, h.2, k.2]; simp
  obtain ⟨c, hc⟩ := Int.dvd_of_emod_eq_zero h0
  have c1 : c < 1 := by
    rcases Int.lt_or_le c 1 with h | h
    · exact h
    · have : p * 1 ≤ p * c := Int.mul_le_mul_of_nonneg_left h (by omega)
      rcases h with _
      have := h
      rcases ‹isE n p s›.1 with e | e <;> rcases k.1 with e' | e' <;> omega
  have c2 : -1 < c := by
    rcases Int.lt_or_le (-1) c with h | h
    · exact h
    · have : p * c ≤ p * (-1) := Int.mul_le_mul_of_nonneg_left h (by omega)
      rcases ‹isE n p s›.1 with e | e <;> rcases k.1 with e' | e' <;> omega
  have : c = 0 := by omega
  subst this
  omega
theorem isE_mul {m n p s t : Int} (h : isE m p s) (k : isE n p t) : isE (m * n) p (s * t) := by
  refine ⟨?_, ?_⟩
  · rcases h.1 with rfl | rfl <;> rcases k.1 with rfl | rfl <;> simp
  · rw [Int.mul_pow]
    have e : m ^ half p * n ^ half p - s * t = (m ^ half p - s) * n ^ half p + s * (n ^ half p - t) := by
      rw [Int.sub_mul, Int.mul_sub]; omega
    rw [e, Int.add_emod, Int.mul_emod, h.2, Int.mul_emod s, k.2]; simp
theorem chr_isE {n p : Int} (hp : isP p) (h2 : p % 2 = 1) (hn : n % p ≠ 0) : isE n p (chr n p) := by
  have h1 := hp.1
  have hf := fermat hp hn
  have he : (p - 1).toNat = half p + half p := by unfold half; omega
  rw [he, Int.pow_add] at hf
  have h0 : (n ^ half p - 1) * (n ^ half p - -1) % p = 0 := by
    have e : (n ^ half p - 1) * (n ^ half p - -1) = n ^ half p * n ^ half p - 1 := by
      rw [Int.sub_mul, Int.mul_sub]; omega
    rw [e, Int.sub_emod, hf, Int.emod_eq_of_lt (show (0 : Int) ≤ 1 by omega) (by omega)]
    simp
  unfold chr
  rw [pow_emod]
  change isE n p (if n ^ half p % p = 1 then 1 else -1)
  rcases isP_mul hp h0 with h | h
  · have e : n ^ half p % p = 1 % p := (Int.emod_eq_emod_iff_emod_sub_eq_zero).2 h
    rw [Int.emod_eq_of_lt (show (0 : Int) ≤ 1 by omega) (by omega)] at e
    rw [if_pos e]
    exact ⟨.inl rfl, h⟩
  · by_cases e : n ^ half p % p = 1
    · rw [if_pos e]
      refine ⟨.inl rfl, ?_⟩
      rw [Int.sub_emod, e, Int.emod_eq_of_lt (show (0 : Int) ≤ 1 by omega) (by omega)]; simp
    · rw [if_neg e]
      exact ⟨.inr rfl, h⟩
theorem chr_mul {m n p : Int} (hp : isP p) (h2 : p % 2 = 1) (hm : m % p ≠ 0) (hn : n % p ≠ 0) : chr (m * n) p = chr m p * chr n p := by
  have h1 := hp.1
  refine isE_unique (by omega) (chr_isE hp h2 fun h => (isP_mul hp h).elim hm hn) (isE_mul (chr_isE hp h2 hm) (chr_isE hp h2 hn))
theorem chr_pm' (n p : Int) : chr n p = 1 ∨ chr n p = -1 := by unfold chr; split <;> simp
theorem chr_sq (n p : Int) : chr n p * chr n p = 1 := by rcases chr_pm' n p with h | h <;> rw [h] <;> rfl
theorem chr_of {n p s : Int} (hp : isP p) (h2 : p % 2 = 1) (hn : n % p ≠ 0) (h : isE n p s) : chr n p = s := by
  have h1 := hp.1
  exact isE_unique (by omega) (chr_isE hp h2 hn) h
theorem one_mod {p : Int} (hp : isP p) : (1 : Int) % p ≠ 0 := by
  have := hp.1
  rw [Int.emod_eq_of_lt (by omega) (by omega)]; omega
theorem chr_one {p : Int} (hp : isP p) (h2 : p % 2 = 1) : chr 1 p = 1 := chr_of hp h2 (one_mod hp) ⟨.inl rfl, by rw [Int.one_pow]; simp⟩
theorem sg_pm' (n : Int) : sg n = 1 ∨ sg n = -1 := by unfold sg; split <;> simp
theorem sg_sq (n : Int) : sg n * sg n = 1 := by rcases sg_pm' n with h | h <;> rw [h] <;> rfl
theorem sg_even' {n : Int} (h : n % 2 = 0) : sg n = 1 := by unfold sg; rw [if_pos h]
theorem neg_mod {n p : Int} (h : n % p ≠ 0) : -n % p ≠ 0 := fun h' => h (Int.emod_eq_zero_of_dvd (Int.dvd_neg.1 (Int.dvd_of_emod_eq_zero h')))
theorem neg_one_pow (k : Nat) : (-1 : Int) ^ k = sg k := by
  induction k with
  | zero => rfl
  | succ k ih =>
    rw [Int.pow_succ, ih, show ((k + 1 : Nat) : Int) = k + 1 by omega, sg_add]
    rfl
theorem chr_neg1 {p : Int} (hp : isP p) (h2 : p % 2 = 1) : chr (-1) p = sg ((p - 1) / 2) := by
  have h1 := hp.1
  refine chr_of hp h2 (neg_mod (one_mod hp)) ⟨sg_pm' _, ?_⟩
  rw [neg_one_pow, show ((half p : Nat) : Int) = (p - 1) / 2 by unfold half; omega, Int.sub_self]
  simp
/-! ### Symbols -/
def plc (p : Int) : Prop := p = -1 ∨ isP p
theorem plc_odd {p : Int} (h : isP p) (h2 : p ≠ 2) : p % 2 = 1 := by
  have h1 := h.1
  have : p % 2 ≠ 0 := isP_dvd h (by omega) (by omega)
  omega
theorem sym_comm (a b p : Int) : sym a b p = sym b a p := by
  unfold sym
  by_cases h : p = -1
  · rw [if_pos h, if_pos h]
    by_cases h1 : a < 0 ∧ b < 0
    · rw [if_pos h1, if_pos ⟨h1.2, h1.1⟩]
    · rw [if_neg h1, if_neg fun h2 => h1 ⟨h2.2, h2.1⟩]
  · rw [if_neg h, if_neg h]
    by_cases h2 : p = 2
    · simp only [if_pos h2]
      congr 1
      rw [Int.mul_comm (((spl p a).2 - 1) / 2)]
      omega
    · simp only [if_neg h2]
      rw [Int.mul_comm ((spl p a).1 : Int), Int.mul_assoc, Int.mul_assoc, Int.mul_assoc, Int.mul_comm (if ((spl p b).1 : Int) % 2 = 1 then _ else _)]
theorem spl_mul {p b c : Int} (hp : isP p) (hb : b ≠ 0) (hc : c ≠ 0) : spl p (b * c) = ((spl p b).1 + (spl p c).1, (spl p b).2 * (spl p c).2) := by
  have h1 := hp.1
  obtain ⟨e1, n1⟩ := spl_spec (p := p) (by omega) hb
  obtain ⟨e2, n2⟩ := spl_spec (p := p) (by omega) hc
  refine spl_eq (by omega) (Int.mul_ne_zero hb hc) ?_ fun h => (isP_mul hp h).elim n1 n2
  conv => lhs; rw [e1, e2]
  rw [Int.pow_add]
  rw [Int.mul_assoc, Int.mul_assoc, Int.mul_left_comm (p ^ (spl p b).1)]
theorem odd_form {u : Int} (h : u % 2 ≠ 0) : ∃ k, u = 2 * k + 1 ∧ (u - 1) / 2 = k := ⟨(u - 1) / 2, by omega, rfl⟩
theorem odd_sq {u : Int} (h : u % 2 ≠ 0) : ∃ s, u * u = 8 * s + 1 ∧ (u * u - 1) / 8 = s := by
  have h8 : (u * u) % 8 = ((u % 8) * (u % 8)) % 8 := Int.mul_emod ..
  have : u % 8 = 1 ∨ u % 8 = 3 ∨ u % 8 = 5 ∨ u % 8 = 7 := by omega
  refine ⟨(u * u - 1) / 8, ?_, rfl⟩
  rcases this with h1 | h1 | h1 | h1 <;> rw [h1] at h8 <;> omega
theorem sg_two (x y : Int) : sg (x + 2 * y) = sg x := by rw [sg_add, sg_even' (n := 2 * y) (by omega), Int.mul_one]
theorem sym_mul {a b c p : Int} (hp : plc p) (ha : a ≠ 0) (hb : b ≠ 0) (hc : c ≠ 0) : sym a (b * c) p = sym a b p * sym a c p := by
  rcases hp with rfl | hp
  · unfold sym
    simp only [if_true]
    by_cases h1 : a < 0
    · rcases Int.lt_or_gt_of_ne hb with h2 | h2 <;> rcases Int.lt_or_gt_of_ne hc with h3 | h3
      · have := Int.mul_pos_of_neg_of_neg h2 h3
        rw [if_neg (by omega), if_pos ⟨h1, h2⟩, if_pos ⟨h1, h3⟩]; rfl
      · have := Int.mul_neg_of_neg_of_pos h2 h3
        rw [if_pos (by omega), if_pos ⟨h1, h2⟩, if_neg (by omega)]; rfl
      · have := Int.mul_neg_of_pos_of_neg h2 h3
        rw [if_pos (by omega), if_neg (by omega), if_pos ⟨h1, h3⟩]; rfl
      · have := Int.mul_pos h2 h3
        rw [if_neg (by omega), if_neg (by omega), if_neg (by omega)]; rfl
    · rw [if_neg (by omega), if_neg (by omega), if_neg (by omega)]; rfl
  · have h1 := hp.1
    have hp1 : p ≠ -1 := by omega
    have na := (spl_spec (p := p) (by omega) ha).2
    have nb := (spl_spec (p := p) (by omega) hb).2
    have nc := (spl_spec (p := p) (by omega) hc).2
    unfold sym
    rw [if_neg hp1, if_neg hp1, if_neg hp1, spl_mul hp hb hc]
    simp only
    generalize (spl p a).2 = u at *
    generalize (spl p b).2 = w at *
    generalize (spl p c).2 = x at *
    generalize ((spl p a).1 : Int) = i
    rw [show (((spl p b).1 + (spl p c).1 : Nat) : Int) = ((spl p b).1 : Int) + ((spl p c).1 : Int) by omega]
    generalize ((spl p b).1 : Int) = j
    generalize ((spl p c).1 : Int) = k
    by_cases h2 : p = 2
    · subst h2
      simp only [if_true]
      obtain ⟨A, hA, hA'⟩ := odd_form na
      obtain ⟨B, hB, hB'⟩ := odd_form nb
      obtain ⟨C, hC, hC'⟩ := odd_form nc
      obtain ⟨R, hR, hR'⟩ := odd_sq na
      obtain ⟨S, hS, hS'⟩ := odd_sq nb
      obtain ⟨T, hT, hT'⟩ := odd_sq nc
      have e1 : (w * x - 1) / 2 = B + C + 2 * (B * C) := by
        have : w * x = 4 * (B * C) + 2 * B + 2 * C + 1 := by rw [hB, hC]; grind
        omega
      have e2 : (w * x * (w * x) - 1) / 8 = S + T + 8 * (S * T) := by
        have : w * x * (w * x) = (w * w) * (x * x) := by grind
        rw [this, hS, hT]
        have : (8 * S + 1) * (8 * T + 1) = 64 * (S * T) + 8 * S + 8 * T + 1 := by grind
        rw [this]; omega
      rw [e1, e2, hA', hB', hC', hR', hS', hT', ← sg_add]
      have e3 : A * (B + C + 2 * (B * C)) + i * (S + T + 8 * (S * T)) + (j + k) * R = (A * B + i * S + j * R + (A * C + i * T + k * R)) + 2 * (A * (B * C) + 4 * (i * (S * T))) := by grind
      rw [e3, sg_two]
    · simp only [if_neg h2]
      have ho := plc_odd hp h2
      rw [chr_mul hp ho nb nc]
      have e1 : sg (i * (j + k) * ((p - 1) / 2)) = sg (i * j * ((p - 1) / 2)) * sg (i * k * ((p - 1) / 2)) := by
        rw [← sg_add]; congr 1; grind
      rw [e1]
      have e2 : (if (j + k) % 2 = 1 then chr u p else 1) = (if j % 2 = 1 then chr u p else 1) * (if k % 2 = 1 then chr u p else 1) := by
        have := chr_sq u p
        by_cases hj : j % 2 = 1 <;> by_cases hk : k % 2 = 1
        · rw [if_neg (by omega), if_pos hj, if_pos hk, this]
        · rw [if_pos (by omega), if_pos hj, if_neg hk, Int.mul_one]
        · rw [if_pos (by omega), if_neg hj, if_pos hk, Int.one_mul]
        · rw [if_neg (by omega), if_neg hj, if_neg hk]; rfl
      rw [e2]
      have e3 : (if i % 2 = 1 then chr w p * chr x p else 1) = (if i % 2 = 1 then chr w p else 1) * (if i % 2 = 1 then chr x p else 1) := by
        by_cases hi : i % 2 = 1
        · simp only [if_pos hi]
        · simp only [if_neg hi]; rfl
      rw [e3]
      grind
theorem sym_pm {a b p : Int} : sym a b p = 1 ∨ sym a b p = -1 := by
  unfold sym
  split
  · split <;> simp
  · simp only
    split
    · exact sg_pm' _
    · rcases sg_pm' (((spl p a).1 : Int) * ((spl p b).1 : Int) * ((p - 1) / 2)) with h | h <;> rw [h] <;> (split <;> split) <;>
        rcases chr_pm' (spl p a).2 p with h1 | h1 <;> rcases chr_pm' (spl p b).2 p with h2 | h2 <;> simp [h1, h2]
theorem spl_unit {p a : Int} (hp : 2 ≤ p) (ha : a % p ≠ 0) : spl p a = (0, a) := by
  have h0 : a ≠ 0 := by rintro rfl; simp at ha
  exact spl_eq hp h0 (by simp) ha
theorem spl_self {p : Int} (hp : isP p) : spl p p = (1, 1) := by
  have := hp.1
  exact spl_eq (by omega) (by omega) (by rw [Int.pow_succ]; simp) (one_mod hp)
theorem sym_unit {a b p : Int} (hp : isP p) (h2 : p ≠ 2) (ha : a % p ≠ 0) (hb : b % p ≠ 0) : sym a b p = 1 := by
  have h1 := hp.1
  unfold sym
  rw [if_neg (by omega), spl_unit (by omega) ha, spl_unit (by omega) hb]
  simp only [if_neg h2]
  simp [sg]
theorem spl_neg {p a : Int} (hp : isP p) (ha : a ≠ 0) : spl p (-a) = ((spl p a).1, -(spl p a).2) := by
  have h1 := hp.1
  obtain ⟨e1, n1⟩ := spl_spec (p := p) (by omega) ha
  refine spl_eq (by omega) (by omega) ?_ (neg_mod n1)
  rw [Int.neg_mul, ← e1]
theorem sym_neg {a p : Int} (hp : plc p) (ha : a ≠ 0) : sym a (-a) p = 1 := by
  rcases hp with rfl | hp
  · unfold sym
    rw [if_pos rfl, if_neg (by omega)]
  · have h1 := hp.1
    have na := (spl_spec (p := p) (by omega) ha).2
    unfold sym
    rw [if_neg (by omega), spl_neg hp ha]
    simp only
    generalize (spl p a).2 = u at *
    generalize ((spl p a).1 : Int) = i
    by_cases h2 : p = 2
    · subst h2
      simp only [if_true]
      obtain ⟨A, hA, hA'⟩ := odd_form na
      obtain ⟨R, hR, hR'⟩ := odd_sq na
      have e1 : (-u - 1) / 2 = -A - 1 := by omega
      have e2 : (-u * -u - 1) / 8 = R := by
        have : -u * -u = u * u := by grind
        rw [this, hR']
      rw [hA', e1, e2, hR']
      have : A * (-A - 1) + i * R + i * R = 2 * (i * R) + -(A * (A + 1)) := by grind
      rw [this, sg_add, sg_even' (by omega), Int.one_mul]
      refine sg_even' ?_
      have : A % 2 = 0 ∨ (A + 1) % 2 = 0 := by omega
      have h3 : A * (A + 1) % 2 = 0 := by
        rcases this with h | h <;> rw [Int.mul_emod, h] <;> simp
      omega
    · simp only [if_neg h2]
      have ho := plc_odd hp h2
      have e1 : chr (-u) p = sg ((p - 1) / 2) * chr u p := by
        rw [show -u = -1 * u by omega, chr_mul hp ho (neg_mod (one_mod hp)) na, chr_neg1 hp ho]
      rw [e1]
      by_cases hi : i % 2 = 1
      · simp only [if_pos hi]
        have e2 : sg (i * i * ((p - 1) / 2)) = sg ((p - 1) / 2) := by
          obtain ⟨m, hm⟩ : ∃ m, i = 2 * m + 1 := ⟨i / 2, by omega⟩
          have : i * i * ((p - 1) / 2) = (p - 1) / 2 + 2 * ((2 * (m * m) + 2 * m) * ((p - 1) / 2)) := by rw [hm]; grind
          rw [this, sg_two]
        rw [e2]
        have s1 := sg_sq ((p - 1) / 2)
        have s2 := chr_sq u p
        grind
      · simp only [if_neg hi]
        have : sg (i * i * ((p - 1) / 2)) = 1 := by
          refine sg_even' ?_
          obtain ⟨m, hm⟩ : ∃ m, i = 2 * m := ⟨i / 2, by omega⟩
          have : i * i * ((p - 1) / 2) = 2 * (m * i * ((p - 1) / 2)) := by
            conv => lhs; rw [show i * i = 2 * (m * i) by rw [← Int.mul_assoc, ← hm]]
            grind
          omega
        rw [this]; rfl
end Go.Proofs.Ythekpkamedjloaa
