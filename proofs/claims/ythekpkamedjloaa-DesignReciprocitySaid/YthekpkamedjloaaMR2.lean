/- Plain arithmetic: the product of the symbols at all places is 1, for small numbers. -/
import Derived.Test.YthekpkamedjloaaMR
namespace Go.Proofs.Ythekpkamedjloaa

def trialB (n : Nat) : Bool := (List.range 30).all fun d => Nat.ble n ((d + 2) * (d + 2) - 1) || !Nat.beq (n % (d + 2)) 0
def primesN : List Nat := ((List.range 499).map fun i => 2 * i + 3).filter trialB
def legB (a p : Nat) : Bool := Nat.beq (a ^ ((p - 1) / 2) % p) 1
/-- Reciprocity, checked for all odd primes below 1000. -/
def qrB : Bool := primesN.all fun q => (legB 2 q == Nat.beq ((q * q - 1) / 8 % 2) 0) && primesN.all fun r => Nat.ble q r || ((legB r q == legB q r) == Nat.beq ((q - 1) / 2 * ((r - 1) / 2) % 2) 0)
theorem qr_true : qrB = true := by decide +kernel
theorem primesN_mem {n : Nat} (hn : n < 1000) : n ∈ primesN ↔ isP n ∧ n ≠ 2 := by
  unfold primesN
  rw [List.mem_filter, List.mem_map]
  have ht : trialB n = true ↔ ∀ d : Nat, 2 ≤ d → d < 32 → d * d ≤ n → n % d ≠ 0 := by
    unfold trialB
    rw [List.all_eq_true]
    constructor
    · intro h d h1 h2 h3
      have := h (d - 2) (List.mem_range.2 (by omega))
      rw [show d - 2 + 2 = d by omega, Bool.or_eq_true] at this
      rcases this with h | h
      · have := Nat.le_of_ble_eq_true h
        have : 0 < d * d := Nat.mul_pos (by omega) (by omega)
        omega
      · intro e; rw [e] at h; cases h
    · intro h d hd
      rw [List.mem_range] at hd
      rw [Bool.or_eq_true]
      by_cases h3 : (d + 2) * (d + 2) ≤ n
      · right
        have := h (d + 2) (by omega) (by omega) h3
        cases hb : Nat.beq (n % (d + 2)) 0 with
        | false => rfl
        | true => exact absurd (Nat.eq_of_beq_eq_true hb) this
      · left
        exact Nat.ble_eq_true_of_le (by omega)
  rw [ht]
  constructor
  · rintro ⟨⟨i, hi, rfl⟩, h⟩
    rw [List.mem_range] at hi
    refine ⟨⟨by omega, fun d h1 h2 h3 => ?_⟩, by omega⟩
    have hd : d < 32 := by
      rcases Int.lt_or_le d 32 with h | h
      · exact h
      · have : 32 * 32 ≤ d * d := Int.mul_le_mul h h (by omega) (by omega)
        omega
    refine h d.toNat (by omega) (by omega) ?_ ?_
    · have e : ((d.toNat * d.toNat : Nat) : Int) = d * d := by push_cast; rw [Int.toNat_of_nonneg (by omega)]
      omega
    · have e : (((2 * i + 3) % d.toNat : Nat) : Int) = ((2 * i + 3 : Nat) : Int) % d := by
        rw [Int.natCast_emod, Int.toNat_of_nonneg (by omega)]
      omega
  · rintro ⟨hp, h2⟩
    have h1 := hp.1
    have hodd : n % 2 = 1 := by
      have : (n : Int) % 2 ≠ 0 := isP_dvd hp (by omega) (by omega)
      omega
    refine ⟨⟨(n - 3) / 2, List.mem_range.2 (by omega), by omega⟩, fun d k1 _ k3 k4 => hp.2 d (by omega) (by exact_mod_cast k3) ?_⟩
    rw [← Int.natCast_emod, k4]; rfl
/-- All places that small numbers can have. -/
def allPl : List Int := -1 :: 2 :: primesN.map fun n : Nat => (n : Int)
theorem isP_two' : isP 2 := ⟨by omega, fun d h1 h2 => by have := sq_le h1 h2; omega⟩
theorem primesN_lt {n : Nat} (h : n ∈ primesN) : n < 1000 := by
  unfold primesN at h
  rw [List.mem_filter, List.mem_map] at h
  obtain ⟨⟨i, hi, rfl⟩, _⟩ := h
  rw [List.mem_range] at hi
  omega
theorem allPl_mem {p : Int} (h : p ∈ allPl) : plc p ∧ (p = -1 ∨ p = 2 ∨ (3 ≤ p ∧ p < 1000 ∧ isP p)) := by
  unfold allPl at h
  rw [List.mem_cons, List.mem_cons, List.mem_map] at h
  rcases h with rfl | rfl | ⟨n, hn, rfl⟩
  · exact ⟨.inl rfl, .inl rfl⟩
  · exact ⟨.inr isP_two', .inr (.inl rfl)⟩
  · have hl := primesN_lt hn
    have := (primesN_mem hl).1 hn
    have h1 := this.1.1
    exact ⟨.inr this.1, .inr (.inr ⟨by omega, by omega, this.1⟩)⟩
theorem mem_allPl {p : Int} (hp : isP p) (h : p < 1000) : p ∈ allPl := by
  have h1 := hp.1
  unfold allPl
  rw [List.mem_cons, List.mem_cons, List.mem_map]
  by_cases h2 : p = 2
  · exact .inr (.inl h2)
  · refine .inr (.inr ⟨p.toNat, (primesN_mem (by omega)).2 ⟨?_, by omega⟩, by omega⟩)
    rw [Int.toNat_of_nonneg (by omega)]; exact hp
theorem allPl_nodup : allPl.Nodup := by
  unfold allPl
  have hp : (primesN.map fun n : Nat => (n : Int)).Pairwise (· < ·) := by
    refine List.pairwise_map.2 ?_
    unfold primesN
    refine List.Pairwise.filter _ (List.pairwise_map.2 ?_)
    exact List.pairwise_lt_range.imp fun h => by omega
  have hm : ∀ x ∈ primesN.map fun n : Nat => (n : Int), 3 ≤ x := by
    intro x hx
    obtain ⟨n, hn, rfl⟩ := List.mem_map.1 hx
    have := (primesN_mem (primesN_lt hn)).1 hn
    have h1 := this.1.1
    omega
  rw [List.nodup_cons, List.nodup_cons]
  refine ⟨?_, ?_, hp.imp fun h => by omega⟩
  · rw [List.mem_cons]
    rintro (h | h)
    · omega
    · have := hm _ h; omega
  · intro h
    have := hm _ h; omega
/-- The product of the symbols at all places. -/
def tot (a b : Int) : Int := prd (allPl.map (sym a b))
theorem prd_except {f : Int → Int} {L S : List Int} (hL : L.Nodup) (hS : S.Nodup) (hsub : ∀ x ∈ S, x ∈ L) (h1 : ∀ x ∈ L, x ∉ S → f x = 1) : prd (L.map f) = prd (S.map f) := by
  have hp : L.Perm (S ++ L.filter fun x => !S.contains x) := by
    refine (List.perm_ext_iff_of_nodup hL ?_).2 fun x => ?_
    · refine List.nodup_append.2 ⟨hS, hL.filter _, fun x hx y hy e => ?_⟩
      subst e
      rw [List.mem_filter] at hy
      simp at hy
      exact hy.2 hx
    · rw [List.mem_append, List.mem_filter]
      simp
      constructor
      · intro h
        by_cases hs : x ∈ S
        · exact .inl hs
        · exact .inr ⟨h, hs⟩
      · rintro (h | h)
        · exact hsub x h
        · exact h.1
  rw [prd_perm (hp.map f), List.map_append, prd_append]
  rw [prd_ones (l := (L.filter fun x => !S.contains x).map f)]
  · simp
  · intro x hx
    obtain ⟨y, hy, rfl⟩ := List.mem_map.1 hx
    rw [List.mem_filter] at hy
    simp at hy
    exact h1 y hy.1 hy.2
theorem tot_mul {a b c : Int} (ha : a ≠ 0) (hb : b ≠ 0) (hc : c ≠ 0) : tot a (b * c) = tot a b * tot a c := by
  unfold tot
  rw [← prd_mul]
  congr 1
  exact List.map_congr_left fun p hp => sym_mul (allPl_mem hp).1 ha hb hc
theorem tot_comm (a b : Int) : tot a b = tot b a := by
  unfold tot
  congr 1
  exact List.map_congr_left fun p _ => sym_comm a b p
/-- On a set of places outside of which the symbol is 1. -/
theorem tot_on {a b : Int} {S : List Int} (hS : S.Nodup) (hsub : ∀ x ∈ S, x ∈ allPl) (h : ∀ p, isP p → p ≠ 2 → p ∉ S → a % p ≠ 0 ∧ b % p ≠ 0) (h1 : -1 ∈ S) (h2 : 2 ∈ S) : tot a b = prd (S.map (sym a b)) := by
  refine prd_except allPl_nodup hS hsub fun x hx hn => ?_
  rcases (allPl_mem hx).2 with rfl | rfl | ⟨h3, h4, h5⟩
  · exact absurd h1 hn
  · exact absurd h2 hn
  · have := h x h5 (by omega) hn
    exact sym_unit h5 (by omega) this.1 this.2
theorem prime_self {p q : Int} (hp : isP p) (hq : isP q) (h : q ≠ p) : q % p ≠ 0 := fun h0 => h (isP_isP hq hp h0)
theorem neg1_mod {p : Int} (hp : isP p) : (-1 : Int) % p ≠ 0 := neg_mod (one_mod hp)
theorem sym_inf {a b : Int} (h : 0 < a ∨ 0 < b) : sym a b (-1) = 1 := by unfold sym; rw [if_pos rfl, if_neg (by omega)]
theorem spl_2_1 : spl 2 (-1) = (0, -1) := spl_unit (by omega) (by decide)
theorem spl_2_2 : spl 2 2 = (1, 1) := spl_self isP_two'
theorem spl_2_q {q : Int} (h : q % 2 = 1) : spl 2 q = (0, q) := spl_unit (by omega) (by omega)
theorem sym2 (a b : Int) : sym a b 2 = sg (((spl 2 a).2 - 1) / 2 * (((spl 2 b).2 - 1) / 2) + ((spl 2 a).1 : Int) * (((spl 2 b).2 * (spl 2 b).2 - 1) / 8) + ((spl 2 b).1 : Int) * (((spl 2 a).2 * (spl 2 a).2 - 1) / 8)) := by
  unfold sym
  rw [if_neg (by omega)]
  simp only [if_true]
theorem symq {a b q : Int} (hq : 3 ≤ q) : sym a b q = sg (((spl q a).1 : Int) * ((spl q b).1 : Int) * ((q - 1) / 2)) * (if ((spl q b).1 : Int) % 2 = 1 then chr (spl q a).2 q else 1) * (if ((spl q a).1 : Int) % 2 = 1 then chr (spl q b).2 q else 1) := by
  unfold sym
  rw [if_neg (by omega)]
  simp only [if_neg (show q ≠ 2 by omega)]
theorem sg_zero : sg 0 = 1 := by decide
theorem nodup2 : [(-1 : Int), 2].Nodup := by decide
theorem tot_11 : tot (-1) (-1) = 1 := by
  rw [tot_on (S := [-1, 2]) nodup2 (fun x hx => by simp at hx; rcases hx with rfl | rfl <;> simp [allPl]) (fun p hp h2 _ => ⟨neg1_mod hp, neg1_mod hp⟩) (by simp) (by simp)]
  simp only [List.map_cons, List.map_nil, prd, List.foldr_cons, List.foldr_nil]
  rw [sym2, spl_2_1]
  decide
theorem tot_12 : tot (-1) 2 = 1 := by
  rw [tot_on (S := [-1, 2]) nodup2 (fun x hx => by simp at hx; rcases hx with rfl | rfl <;> simp [allPl]) (fun p hp h2 _ => ⟨neg1_mod hp, prime_self hp isP_two' (fun e => h2 e.symm)⟩) (by simp) (by simp)]
  simp only [List.map_cons, List.map_nil, prd, List.foldr_cons, List.foldr_nil]
  rw [sym2, spl_2_1, spl_2_2, sym_inf (by omega)]
  decide
theorem tot_22 : tot 2 2 = 1 := by
  rw [tot_on (S := [-1, 2]) nodup2 (fun x hx => by simp at hx; rcases hx with rfl | rfl <;> simp [allPl]) (fun p hp h2 _ => ⟨prime_self hp isP_two' (fun e => h2 e.symm), prime_self hp isP_two' (fun e => h2 e.symm)⟩) (by simp) (by simp)]
  simp only [List.map_cons, List.map_nil, prd, List.foldr_cons, List.foldr_nil]
  rw [sym2, spl_2_2, sym_inf (by omega)]
  decide
section
variable {q r : Int} (hq : isP q) (hq3 : 3 ≤ q) (hq1 : q < 1000)
include hq hq3 hq1
theorem sub_q : ∀ x ∈ [-1, 2, q], x ∈ allPl := by
  intro x hx
  simp at hx
  rcases hx with rfl | rfl | rfl
  · simp [allPl]
  · simp [allPl]
  · exact mem_allPl hq hq1
omit hq hq1 in
theorem nodup_q : [-1, 2, q].Nodup := by simp; omega
theorem tot_1q : tot (-1) q = 1 := by
  have ho := plc_odd hq (by omega)
  rw [tot_on (S := [-1, 2, q]) (nodup_q hq3) (sub_q hq hq3 hq1) (fun p hp h2 hn => ⟨neg1_mod hp, prime_self hp hq (fun e => hn (by simp [e]))⟩) (by simp) (by simp)]
  simp only [List.map_cons, List.map_nil, prd, List.foldr_cons, List.foldr_nil]
  rw [sym2, symq hq3, spl_2_1, spl_2_q ho, spl_unit (by omega) (neg1_mod hq), spl_self hq, sym_inf (by omega)]
  simp only [chr_neg1 hq ho]
  have e : sg (-1 - 1) = 1 := by decide
  have e1 : (-1 - 1 : Int) / 2 = -1 := by decide
  have e2 : ((-1 : Int) * -1 - 1) / 8 = 0 := by decide
  simp only [e1, e2]
  have s := sg_sq ((q - 1) / 2)
  have e3 : sg (-1 * ((q - 1) / 2) + ((0 : Nat) : Int) * ((q * q - 1) / 8) + ((0 : Nat) : Int) * 0) = sg ((q - 1) / 2) := by
    have : -1 * ((q - 1) / 2) + ((0 : Nat) : Int) * ((q * q - 1) / 8) + ((0 : Nat) : Int) * 0 = (q - 1) / 2 + 2 * (-((q - 1) / 2)) := by simp; omega
    rw [this, sg_two]
  rw [e3]
  simp [sg_zero, s]
theorem qr_at : q.toNat ∈ primesN := (primesN_mem (by omega)).2 ⟨by rw [Int.toNat_of_nonneg (by omega)]; exact hq, by omega⟩
omit hq hq1 in
theorem leg_chr {a : Nat} : chr (a : Int) q = if legB a q.toNat then 1 else -1 := by
  unfold chr legB
  rw [pow_emod]
  have e1 : ((q - 1) / 2).toNat = (q.toNat - 1) / 2 := by omega
  rw [e1]
  have e2 : (a : Int) ^ ((q.toNat - 1) / 2) % q = ((a ^ ((q.toNat - 1) / 2) % q.toNat : Nat) : Int) := by
    rw [Int.natCast_emod, Int.natCast_pow, Int.toNat_of_nonneg (by omega)]
  rw [e2]
  cases hb : Nat.beq (a ^ ((q.toNat - 1) / 2) % q.toNat) 1 with
  | true =>
    rw [if_pos (by rw [Nat.eq_of_beq_eq_true hb]; rfl)]; rfl
  | false =>
    rw [if_neg (fun e => ?_)]
    · rfl
    · have : a ^ ((q.toNat - 1) / 2) % q.toNat = 1 := by omega
      rw [this] at hb; cases hb
theorem tot_2q : tot 2 q = 1 := by
  have ho := plc_odd hq (by omega)
  rw [tot_on (S := [-1, 2, q]) (nodup_q hq3) (sub_q hq hq3 hq1) (fun p hp h2 hn => ⟨prime_self hp isP_two' (fun e => h2 e.symm), prime_self hp hq (fun e => hn (by simp [e]))⟩) (by simp) (by simp)]
  simp only [List.map_cons, List.map_nil, prd, List.foldr_cons, List.foldr_nil]
  rw [sym2, symq hq3, spl_2_2, spl_2_q ho, spl_unit (by omega) (prime_self hq isP_two' (by omega)), spl_self hq, sym_inf (by omega)]
  have h := List.all_eq_true.1 qr_true q.toNat (qr_at hq hq3 hq1)
  rw [Bool.and_eq_true] at h
  have h := h.1
  have hc := leg_chr (a := 2) hq3
  have e1 : ((q.toNat * q.toNat - 1) / 8 % 2 : Nat) = ((q * q - 1) / 8 % 2) := by
    have : ((q.toNat * q.toNat : Nat) : Int) = q * q := by push_cast; rw [Int.toNat_of_nonneg (by omega)]
    have : 0 < q * q := Int.mul_pos (by omega) (by omega)
    omega
  have e3 : sg ((1 - 1) / 2 * ((q - 1) / 2) + ((1 : Nat) : Int) * ((q * q - 1) / 8) + ((0 : Nat) : Int) * ((1 * 1 - 1) / 8)) = sg ((q * q - 1) / 8) := by
    congr 1; simp
  simp only [e3]
  have hc2 : chr (2 : Int) q = sg ((q * q - 1) / 8) := by
    have hc' : chr (2 : Int) q = if legB 2 q.toNat then 1 else -1 := hc
    rw [hc']
    unfold sg
    generalize (q.toNat * q.toNat - 1) / 8 % 2 = m at h e1
    rw [← e1]
    cases hl : legB 2 q.toNat with
    | true =>
      rw [hl] at h
      have : Nat.beq m 0 = true := by simpa using h
      have := Nat.eq_of_beq_eq_true this
      subst this
      rfl
    | false =>
      rw [hl] at h
      have hm : ¬ ((m : Int) = 0) := by
        intro e
        have : m = 0 := by omega
        subst this
        cases h
      rw [if_neg hm]; rfl
  rw [hc2]
  have s := sg_sq ((q * q - 1) / 8)
  simp [sg_zero, s]
theorem tot_qq : tot q q = 1 := by
  have h0 : q ≠ 0 := by omega
  have h1 : tot q (-q) = 1 := prd_ones fun x hx => by
    obtain ⟨p, hp, rfl⟩ := List.mem_map.1 hx
    exact sym_neg (allPl_mem hp).1 h0
  have h2 : tot q (-1 * q) = tot q (-1) * tot q q := tot_mul h0 (by omega) h0
  rw [show -1 * q = -q by omega, h1, tot_comm q (-1), tot_1q hq hq3 hq1] at h2
  omega
theorem tot_qr (hr : isP r) (hr3 : 3 ≤ r) (hqr : r < q) : tot q r = 1 := by
  have ho := plc_odd hq (by omega)
  have hor := plc_odd hr (by omega)
  have hr1 : r < 1000 := by omega
  rw [tot_on (S := [-1, 2, q, r]) (by simp; omega) (fun x hx => by
      simp at hx
      rcases hx with rfl | rfl | rfl | rfl
      · simp [allPl]
      · simp [allPl]
      · exact mem_allPl hq hq1
      · exact mem_allPl hr hr1) (fun p hp h2 hn => ⟨prime_self hp hq (fun e => hn (by simp [e])), prime_self hp hr (fun e => hn (by simp [e]))⟩) (by simp) (by simp)]
  simp only [List.map_cons, List.map_nil, prd, List.foldr_cons, List.foldr_nil]
  rw [sym2, symq hq3, symq hr3, spl_2_q ho, spl_2_q hor, spl_unit (p := q) (a := r) (by omega) (prime_self hq hr (by omega)), spl_self hq, spl_unit (p := r) (a := q) (by omega) (prime_self hr hq (by omega)), spl_self hr, sym_inf (by omega)]
  have h := List.all_eq_true.1 qr_true q.toNat (qr_at hq hq3 hq1)
  rw [Bool.and_eq_true] at h
  have h := List.all_eq_true.1 h.2 r.toNat (qr_at hr hr3 hr1)
  rw [Bool.or_eq_true] at h
  have h : ((legB r.toNat q.toNat == legB q.toNat r.toNat) == Nat.beq ((q.toNat - 1) / 2 * ((r.toNat - 1) / 2) % 2) 0) = true := h.resolve_left fun h => by
    have := Nat.le_of_ble_eq_true h
    omega
  have hc1 : chr r q = if legB r.toNat q.toNat then 1 else -1 := by
    have := leg_chr (a := r.toNat) hq3
    rwa [Int.toNat_of_nonneg (by omega)] at this
  have hc2 : chr q r = if legB q.toNat r.toNat then 1 else -1 := by
    have := leg_chr (a := q.toNat) hr3
    rwa [Int.toNat_of_nonneg (by omega)] at this
  have e1 : (((q.toNat - 1) / 2 * ((r.toNat - 1) / 2) : Nat) : Int) = (q - 1) / 2 * ((r - 1) / 2) := by
    rw [Int.natCast_mul]
    congr 1 <;> omega
  have e3 : sg ((q - 1) / 2 * ((r - 1) / 2) + ((0 : Nat) : Int) * ((r * r - 1) / 8) + ((0 : Nat) : Int) * ((q * q - 1) / 8)) = sg ((q - 1) / 2 * ((r - 1) / 2)) := by
    congr 1; simp
  simp only [e3]
  have key : sg ((q - 1) / 2 * ((r - 1) / 2)) = chr r q * chr q r := by
    rw [hc1, hc2]
    unfold sg
    generalize hm : (q.toNat - 1) / 2 * ((r.toNat - 1) / 2) = m at *
    have hev : ((q - 1) / 2 * ((r - 1) / 2) % 2 = 0) ↔ Nat.beq (m % 2) 0 = true := by
      rw [← e1]
      constructor
      · intro h; rw [show m % 2 = 0 by omega]; rfl
      · intro h; have := Nat.eq_of_beq_eq_true h; omega
    cases hb : Nat.beq (m % 2) 0 with
    | true =>
      rw [if_pos (hev.2 hb)]
      rw [hb] at h
      cases h1 : legB r.toNat q.toNat <;> cases h2 : legB q.toNat r.toNat <;> rw [h1, h2] at h <;> first | rfl | cases h
    | false =>
      rw [if_neg (fun e => by rw [hev.1 e] at hb; cases hb)]
      rw [hb] at h
      cases h1 : legB r.toNat q.toNat <;> cases h2 : legB q.toNat r.toNat <;> rw [h1, h2] at h <;> first | rfl | cases h
  rw [key]
  have s1 := chr_sq r q
  have s2 := chr_sq q r
  simp [sg_zero]
  grind
end
theorem prime_factor : ∀ (n : Nat), 2 ≤ n → ∃ p, isP p ∧ (n : Int) % p = 0 := by
  intro n
  induction n using Nat.strongRecOn with
  | _ n ih =>
    intro hn
    by_cases hp : isP n
    · exact ⟨n, hp, by simp⟩
    · have : ∃ d : Int, 2 ≤ d ∧ d * d ≤ n ∧ (n : Int) % d = 0 := by
        refine Classical.byContradiction fun h => hp ⟨by omega, fun d h1 h2 h3 => h ⟨d, h1, h2, h3⟩⟩
      obtain ⟨d, h1, h2, h3⟩ := this
      have hd : 2 * d ≤ n := sq_le h1 h2
      obtain ⟨p, hp, hpd⟩ := ih d.toNat (by omega) (by omega)
      rw [Int.toNat_of_nonneg (by omega)] at hpd
      exact ⟨p, hp, mod_trans h3 hpd⟩
theorem by_factors (f : Int → Int) (hmul : ∀ x y, x ≠ 0 → y ≠ 0 → f (x * y) = f x * f y) (h1 : f (-1) = 1) (hp : ∀ p, isP p → p < 1000 → f p = 1) : ∀ (n : Nat) (a : Int), a.natAbs = n → a ≠ 0 → n < 1000 → f a = 1 := by
  intro n
  induction n using Nat.strongRecOn with
  | _ n ih =>
    intro a ha h0 hn
    by_cases hs : n = 1
    · have : a = 1 ∨ a = -1 := by omega
      rcases this with rfl | rfl
      · have := hmul (-1) (-1) (by omega) (by omega)
        rw [h1] at this
        simpa using this
      · exact h1
    · obtain ⟨p, hpp, hd⟩ := prime_factor n (by omega)
      have hp1 := hpp.1
      have hda : a % p = 0 := by
        have : p ∣ (a.natAbs : Int) := by rw [ha]; exact Int.dvd_of_emod_eq_zero hd
        exact Int.emod_eq_zero_of_dvd (Int.dvd_natAbs.1 this)
      obtain ⟨c, rfl⟩ := Int.dvd_of_emod_eq_zero hda
      have hc : c ≠ 0 := by rintro rfl; simp at h0
      rw [Int.natAbs_mul] at ha
      have hpa : 2 ≤ p.natAbs := by omega
      have hcn : c.natAbs < n := by
        have : 2 * c.natAbs ≤ p.natAbs * c.natAbs := Nat.mul_le_mul_right _ hpa
        omega
      have hpn : p.natAbs ≤ n := by rw [← ha]; exact Nat.le_mul_of_pos_right _ (by omega)
      rw [hmul p c (by omega) hc, hp p hpp (by omega), ih c.natAbs hcn c rfl hc (by omega)]; rfl
theorem tot_prime {p : Int} (hp : isP p) (h : p < 1000) : ∀ b : Int, b ≠ 0 → b.natAbs < 1000 → tot p b = 1 := by
  intro b hb hb2
  have h1 := hp.1
  refine by_factors (fun b => tot p b) (fun x y hx hy => tot_mul (by omega) hx hy) ?_ ?_ b.natAbs b rfl hb hb2
  · show tot p (-1) = 1
    rw [tot_comm]
    by_cases h2 : p = 2
    · subst h2; exact tot_12
    · exact tot_1q hp (by omega) h
  · intro q hq hq2
    have hq1 := hq.1
    by_cases h2 : p = 2
    · subst h2
      by_cases h3 : q = 2
      · subst h3; exact tot_22
      · exact tot_2q hq (by omega) hq2
    · by_cases h3 : q = 2
      · subst h3; show tot p 2 = 1; rw [tot_comm]; exact tot_2q hp (by omega) h
      · rcases Int.lt_trichotomy q p with h4 | h4 | h4
        · exact tot_qr hp (by omega) h hq (by omega) h4
        · subst h4; exact tot_qq hp (by omega) h
        · show tot p q = 1; rw [tot_comm]; exact tot_qr hq (by omega) hq2 hp (by omega) h4
/-- The product formula. -/
theorem tot_one {a b : Int} (ha : a ≠ 0) (hb : b ≠ 0) (ha2 : a.natAbs < 1000) (hb2 : b.natAbs < 1000) : tot a b = 1 := by
  rw [tot_comm]
  refine by_factors (fun a => tot b a) (fun x y hx hy => tot_mul hb hx hy) ?_ ?_ a.natAbs a rfl ha ha2
  · show tot b (-1) = 1
    rw [tot_comm]
    refine by_factors (fun b => tot (-1) b) (fun x y hx hy => tot_mul (by omega) hx hy) tot_11 ?_ b.natAbs b rfl hb hb2
    intro p hp h
    have h1 := hp.1
    by_cases h2 : p = 2
    · subst h2; exact tot_12
    · exact tot_1q hp (by omega) h
  · intro p hp h
    show tot b p = 1
    rw [tot_comm]
    exact tot_prime hp h b hb hb2
end Go.Proofs.Ythekpkamedjloaa
