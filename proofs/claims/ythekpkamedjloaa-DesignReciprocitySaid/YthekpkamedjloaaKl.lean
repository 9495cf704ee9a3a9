/- Small laws for the proofs over the segments' conditions. -/
import Derived.Test.YthekpkamedjloaaKg
namespace Go.Proofs.Ythekpkamedjloaa
open Go.RowKit

/-! ### Leaves -/
@[simp] theorem retQ_ret (R : Value → World → Prop) (v : Value) (w : World) : retQ R .ret [v] w = R v w := rfl
@[simp] theorem setA_ret (Q : Post) (i : Nat) (A : List Value → World → Prop) (vs : List Value) (w : World) : setA Q i A .ret vs w = Q .ret vs w := rfl
@[simp] theorem setA_again (Q : Post) (i j : Nat) (A : List Value → World → Prop) (vs : List Value) (w : World) : setA Q i A (.again j) vs w = if j = i then A vs w else Q (.again j) vs w := by
  unfold setA
  by_cases h : j = i
  · subst h; simp
  · have : Nat.beq j i = false := by
      cases hb : Nat.beq j i with
      | false => rfl
      | true => exact absurd (Nat.eq_of_beq_eq_true hb) h
    simp [h, this]

@[simp] theorem rndQ_fin (I Xr : World → Prop) (Xo : Nat → World → Prop) (vs : List Value) (w : World) : rndQ I Xr Xo .fin vs w = I w := rfl
@[simp] theorem rndQ_rret (I Xr : World → Prop) (Xo : Nat → World → Prop) (vs : List Value) (w : World) : rndQ I Xr Xo .rret vs w = Xr w := rfl
@[simp] theorem rndQ_out (I Xr : World → Prop) (Xo : Nat → World → Prop) (id : Nat) (vs : List Value) (w : World) : rndQ I Xr Xo (.out id) vs w = Xo id w := rfl

/-! ### Numbers -/
theorem wr {e : Int} {p : Int → Prop} (h1 : -9223372036854775808 ≤ e) (h2 : e ≤ 9223372036854775807) (h : p e) : ∃ r, IntKind.i64.wrap e = r ∧ p r := by
  refine ⟨e, ?_, h⟩
  simp only [IntKind.wrap, IntKind.bits, IntKind.signed, Bool.true_and, decide_eq_true_eq, show (2 : Int) ^ (64 - 1) = 9223372036854775808 from rfl, show (2 : Int) ^ 64 = 18446744073709551616 from rfl]
  split <;> omega
theorem tmod_nn {a b : Int} (h : 0 ≤ a) : a.tmod b = a % b := Int.tmod_eq_emod_of_nonneg h
theorem tdiv_nn {a b : Int} (h : 0 ≤ a) : a.tdiv b = a / b := Int.tdiv_eq_ediv_of_nonneg h
theorem rm {a b : Int} {p : Int → Prop} (hb : b ≠ 0) (ha : 0 ≤ a) (h : p (a % b)) : b ≠ 0 ∧ ∃ r, a.tmod b = r ∧ p r := ⟨hb, _, tmod_nn ha, h⟩
theorem qu {a b : Int} {p : Int → Prop} (hb : 0 < b) (ha : 0 ≤ a) (h2 : a ≤ 9223372036854775807) (h : p (a / b)) : b ≠ 0 ∧ ∃ r, IntKind.i64.wrap (a.tdiv b) = r ∧ p r := by
  refine ⟨by omega, ?_⟩
  rw [tdiv_nn ha]
  have h0 : 0 ≤ a / b := Int.ediv_nonneg ha (by omega)
  have h1 : a / b ≤ a := Int.ediv_le_self b ha
  exact wr (by omega) (by omega) h

/-! ### Rows of cells -/
/-- From a on lie these cells. -/
def Row (w : World) (a : Option Addr) (vs : List Value) : Prop := ∀ i (h : i < vs.length), ∃ p, a = some p ∧ w.cell? (p.add i) = some vs[i]
def ints (xs : List Int) : List Value := xs.map fun x => .int .i64 x
@[simp] theorem ints_length (xs : List Int) : (ints xs).length = xs.length := by simp [ints]
/-- A slice of ints that reads so. -/
structure Ints (w : World) (a : Option Addr) (xs : List Int) : Prop where
  row : Row w a (ints xs)
  len : xs.length ≤ 9223372036854775807
def gi (xs : List Int) (i : Int) : Int := xs.getD i.toNat 0
theorem Row.ext {w w' : World} {a : Option Addr} {vs : List Value} (h : Row w a vs) (hw : Ext w w') : Row w' a vs := fun i hi => by
  obtain ⟨p, hp, hc⟩ := h i hi
  exact ⟨p, hp, hw.cell hc⟩
theorem Ints.ext {w w' : World} {a : Option Addr} {xs : List Int} (h : Ints w a xs) (hw : Ext w w') : Ints w' a xs := ⟨h.row.ext hw, h.len⟩
theorem Row.nil (w : World) (a : Option Addr) : Row w a [] := fun i hi => by simp at hi
theorem Ints.nil (w : World) (a : Option Addr) : Ints w a [] := ⟨Row.nil w a, by simp⟩
/-- xs[i], read. -/
theorem ix {w : World} {a : Option Addr} {xs : List Int} {i : Int} {n : Nat} {K : Int → Prop} (h : Ints w a xs) (hn : n = xs.length) (h0 : 0 ≤ i) (h1 : i < (n : Nat)) (k : K (gi xs i)) :
    0 ≤ i ∧ i < (n : Nat) ∧ ∃ p, a = some p ∧ ∃ x, w.cell? (p.add (i.toNat * 1)) = some (.int .i64 x) ∧ K x := by
  subst hn
  have hl : i.toNat < xs.length := by omega
  obtain ⟨p, hp, hc⟩ := h.row i.toNat (by simpa using hl)
  refine ⟨h0, h1, p, hp, gi xs i, ?_, k⟩
  rw [Nat.mul_one, hc]
  simp [ints, gi, List.getD_eq_getElem?_getD, List.getElem?_eq_getElem hl]
theorem gi_get {xs : List Int} {k : Nat} (h : k < xs.length) : gi xs (k : Int) = xs[k] := by
  simp [gi, List.getD_eq_getElem?_getD, List.getElem?_eq_getElem h]
theorem heap_new (w : World) (o : Obj) : (w.alloc o).heap[w.heap.size]? = some o := by
  show (w.heap.push o)[w.heap.size]? = _
  simp
theorem cell_of_block {w : World} {b : Nat} {cs : Array Value} {t : TypeId} {fr : Nat × Nat} (h : w.heap[b]? = some (.cells cs t fr)) (j : Nat) : w.cell? ⟨b, j, none⟩ = cs[j]? := by
  unfold World.cell?
  simp only [h]
  rfl
theorem cell_alloc {w : World} {o : Obj} {cs : Array Value} {t : TypeId} {j : Nat} {v : Value} (ho : o = .cells cs t) (h : cs[j]? = some v) : (w.alloc o).cell? ((bl w.heap.size).add j) = some v := by
  subst ho
  have : (bl w.heap.size).add j = ⟨w.heap.size, j, none⟩ := by unfold Addr.add; split <;> simp_all [bl]
  rw [this]
  rw [cell_of_block (heap_new w _), h]
theorem cell_box (w : World) (v : Value) (t : TypeId) : (w.alloc (.cells #[v] t)).cell? (bl w.heap.size) = some v := by
  rw [cell_of_block (heap_new w _)]; rfl
end Go.Proofs.Ythekpkamedjloaa
