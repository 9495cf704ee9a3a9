/- Designs: the pairs, counted twice. -/
import Derived.Test.YthekpkamedjloaaGreatPc2
namespace Go.Proofs.YthekpkamedjloaaGreat
def tri : Nat → Nat
  | 0 => 0
  | n + 1 => tri n + n
theorem tri_two (n : Nat) : 2 * tri n + n = n * n := by
  induction n with
  | zero => rfl
  | succ n ih =>
    simp only [tri, Nat.succ_mul, Nat.mul_succ]
    omega
theorem prsTo_len (b : List Int) : ∀ n, n ≤ b.length → (prsTo b n).length = tri n := by
  intro n hn
  induction n with
  | zero => simp [prsTo, tri]
  | succ n ih =>
    rw [prsTo_succ b n (by omega), List.length_append, List.length_map, List.length_take, ih (by omega), tri]
    omega
theorem prs_tri (b : List Int) : (prs b).length = tri b.length := by rw [← prsTo_all]; exact prsTo_len b _ (Nat.le_refl _)
theorem flat_tri (v : Int) (k : Nat) : ∀ bss : List (List Int), good v k bss → (bss.flatMap prs).length = bss.length * tri k
  | [], _ => by simp
  | b :: bss, h => by
    have h1 := h b (List.mem_cons_self ..)
    rw [List.flatMap_cons, List.length_append, prs_tri, h1.1, flat_tri v k bss (fun c hc => h c (List.mem_cons_of_mem _ hc)), List.length_cons, Nat.succ_mul]
    omega
/-- All pairs below v. -/
def allP (v : Nat) : List (Int × Int) := (List.range v).flatMap fun y => (List.range y).map fun x : Nat => ((x : Int), (y : Int))
theorem allP_mem (v : Nat) (p : Int × Int) : p ∈ allP v ↔ 0 ≤ p.1 ∧ p.1 < p.2 ∧ p.2 < v := by
  unfold allP
  simp only [List.mem_flatMap, List.mem_map, List.mem_range]
  constructor
  · rintro ⟨y, hy, x, hx, rfl⟩
    simp
    omega
  · rintro ⟨h0, h1, h2⟩
    exact ⟨p.2.toNat, by omega, p.1.toNat, by omega, Prod.ext (by simp; omega) (by simp; omega)⟩
theorem allP_len (v : Nat) : (allP v).length = tri v := by
  induction v with
  | zero => rfl
  | succ v ih =>
    unfold allP at *
    rw [List.range_succ, List.flatMap_append, List.length_append, ih, tri]
    simp
theorem allP_count (v : Nat) (p : Int × Int) (h : p ∈ allP v) : (allP v).count p = 1 := by
  induction v with
  | zero => simp [allP] at h
  | succ v ih =>
    have e : allP (v + 1) = allP v ++ (List.range v).map fun x : Nat => ((x : Int), (v : Int)) := by simp [allP, List.range_succ]
    have hm := (allP_mem (v + 1) p).1 h
    rw [e, List.count_append]
    by_cases hv : p.2 = v
    · have h0 : p ∉ allP v := by rw [allP_mem]; omega
      rw [List.count_eq_zero_of_not_mem h0]
      obtain ⟨x, y⟩ := p
      dsimp only at hv hm
      subst hv
      have : ∀ n : Nat, ((List.range n).map fun x : Nat => ((x : Int), ((v : Nat) : Int))).count (x, ((v : Nat) : Int)) = if 0 ≤ x ∧ x < n then 1 else 0 := by
        intro n
        induction n with
        | zero => rw [if_neg (by omega)]; rfl
        | succ n ih2 =>
          rw [List.range_succ, List.map_append, List.count_append, ih2]
          simp only [List.map_cons, List.map_nil, List.count_singleton, beq_iff_eq, Prod.mk.injEq, and_true]
          by_cases e1 : (n : Int) = x
          · rw [if_neg (by omega), if_pos e1, if_pos (by omega)]
          · by_cases e2 : 0 ≤ x ∧ x < n
            · rw [if_pos e2, if_neg e1, if_pos (by omega)]
            · rw [if_neg e2, if_neg e1, if_neg (by omega)]
      rw [this v, if_pos (by omega)]
    · have h0 : p ∉ (List.range v).map fun x : Nat => ((x : Int), (v : Int)) := by
        intro hh
        obtain ⟨x, _, rfl⟩ := List.mem_map.1 hh
        exact hv rfl
      rw [List.count_eq_zero_of_not_mem h0, ih ((allP_mem v p).2 (by omega))]
def sumN (l : List Nat) : Nat := l.foldr (· + ·) 0
theorem sum_ind (U : List (Int × Int)) (p : Int × Int) : sumN (U.map fun u => if p = u then 1 else 0) = U.count p := by
  induction U with
  | nil => rfl
  | cons u U ih =>
    rw [List.count_cons, ← ih]
    simp only [sumN, List.map_cons, List.foldr_cons, beq_iff_eq]
    by_cases e : p = u
    · subst e; simp; omega
    · rw [if_neg e, if_neg (fun e' => e e'.symm)]; omega
theorem sum_add (U : List (Int × Int)) (f g : Int × Int → Nat) : sumN (U.map fun u => f u + g u) = sumN (U.map f) + sumN (U.map g) := by
  induction U with
  | nil => rfl
  | cons u U ih => simp only [sumN, List.map_cons, List.foldr_cons] at *; omega
theorem sum_count (U : List (Int × Int)) (hU : ∀ p ∈ U, U.count p = 1) : ∀ Ps : List (Int × Int), (∀ p ∈ Ps, p ∈ U) → sumN (U.map fun u => Ps.count u) = Ps.length
  | [], _ => by
    have : ∀ U : List (Int × Int), sumN (U.map fun u => ([] : List (Int × Int)).count u) = 0 := by
      intro U; induction U with
      | nil => rfl
      | cons u U ih => simp only [sumN, List.map_cons, List.foldr_cons] at *; rw [ih]; rfl
    exact this U
  | p :: Ps, h => by
    have ih := sum_count U hU Ps (fun q hq => h q (List.mem_cons_of_mem _ hq))
    have e : (fun u => (p :: Ps).count u) = fun u => Ps.count u + if p = u then 1 else 0 := by
      funext u
      rw [List.count_cons]
      simp
    rw [e, sum_add, ih, sum_ind, hU p (h p (List.mem_cons_self ..))]
    simp
theorem sum_const (U : List (Int × Int)) (f : Int × Int → Nat) (l : Nat) (h : ∀ u ∈ U, f u = l) : sumN (U.map f) = U.length * l := by
  induction U with
  | nil => simp [sumN]
  | cons u U ih =>
    have := ih (fun x hx => h x (List.mem_cons_of_mem _ hx))
    simp only [sumN, List.map_cons, List.foldr_cons, List.length_cons, Nat.succ_mul] at *
    rw [this, h u (List.mem_cons_self ..)]
    omega
theorem prsTo_mem {v : Int} {b : List Int} (h : rise v b) : ∀ n, n ≤ b.length → ∀ p ∈ prsTo b n, 0 ≤ p.1 ∧ p.1 < p.2 ∧ p.2 < v := by
  intro n hn
  induction n with
  | zero => simp [prsTo]
  | succ n ih =>
    rw [prsTo_succ b n (by omega)]
    intro p hp
    rcases List.mem_append.1 hp with hp | hp
    · exact ih (by omega) p hp
    · obtain ⟨y, hy, rfl⟩ := List.mem_map.1 hp
      obtain ⟨i, hi, rfl⟩ := List.mem_take_iff_getElem.1 hy
      have h1 := List.pairwise_iff_getElem.1 h.1 i n (by omega) (by omega) (by omega)
      have h2 := h.2 _ (List.getElem_mem (show i < b.length by omega))
      have h3 := h.2 _ (List.getElem_mem (show n < b.length by omega))
      exact ⟨h2.1, h1, h3.2⟩
/-- The pairs of a design, counted twice. -/
theorem twice {v : Int} {k l : Nat} {bss : List (List Int)} (hv : 3 ≤ v) (hg : good v k bss) (hb : bal v (bss.flatMap prs) l) : (bss.length : Int) * k * (k - 1) = l * (v - 1) * v := by
  have hmem : ∀ p ∈ bss.flatMap prs, p ∈ allP v.toNat := by
    intro p hp
    obtain ⟨b, hb, hpb⟩ := List.mem_flatMap.1 hp
    rw [← prsTo_all] at hpb
    have := prsTo_mem (hg b hb).2 _ (Nat.le_refl _) p hpb
    rw [allP_mem]
    omega
  have h1 := sum_count (allP v.toNat) (fun p hp => allP_count _ p hp) _ hmem
  rw [sum_const _ _ l (fun u hu => by
    have := (allP_mem v.toNat u).1 hu
    exact hb u.1 u.2 this.1 this.2.1 (by omega)), flat_tri v k bss hg, allP_len] at h1
  have e1 := tri_two v.toNat
  have e2 := tri_two k
  -- over the integers
  have f1 : (bss.length : Int) * tri k = tri v.toNat * l := by exact_mod_cast h1.symm
  have f2 : 2 * (tri k : Int) = k * (k - 1) := by
    have : (2 * tri k + k : Int) = k * k := by exact_mod_cast e2
    rw [Int.mul_sub]; omega
  have f3 : 2 * (tri v.toNat : Int) = v * (v - 1) := by
    have : (2 * tri v.toNat + v.toNat : Int) = v.toNat * v.toNat := by exact_mod_cast e1
    rw [Int.toNat_of_nonneg (by omega)] at this
    rw [Int.mul_sub]; omega
  have g1 : (bss.length : Int) * (2 * tri k) = 2 * tri v.toNat * l := by
    rw [Int.mul_left_comm, f1]; rw [Int.mul_assoc]
  rw [f2, f3] at g1
  rw [Int.mul_assoc, g1, Int.mul_comm v, Int.mul_assoc, Int.mul_comm v, ← Int.mul_assoc, Int.mul_comm (v - 1)]
theorem quot_eq {A B v k : Int} (hv : 0 < v) (hk : 0 < k) (h : A * k = B * v) : A / v = B / k := by
  have h1 : A / v = (A * k) / (v * k) := (Int.mul_ediv_mul_of_pos_left A v hk).symm
  have h2 : B / k = (B * v) / (k * v) := (Int.mul_ediv_mul_of_pos_left B k hv).symm
  rw [h1, h2, h, Int.mul_comm v k]
end Go.Proofs.YthekpkamedjloaaGreat
