/- Rows: what the statement hands in, opened; what it hands back, shut. -/
import Derived.Test.YthekpkamedjloaaKx
import Derived.ProofKit
import Derived.OpenShut
import Derived.Carry
import Derived.Deep.Matrix
namespace Go.Proofs.Ythekpkamedjloaa
open Go.ChangeShapes Go.WideShapes Go.ChangeAt Go.RowKit
/-- A slice that came in: nil, or a row with room. -/
structure SlI (w : World) (a : Option Addr) (n c : Nat) (xs : List Int) : Prop where
  ints : Ints w a xs
  len : n = xs.length
  cap : n ≤ c
  nil : a = none → c = 0
  small : c ≤ 9223372036854775807
theorem SlI.ext {w w' : World} {a : Option Addr} {n c : Nat} {xs : List Int} (h : SlI w a n c xs) (hE : Ext w w') : SlI w' a n c xs := ⟨h.ints.ext hE, h.len, h.cap, h.nil, h.small⟩

structure SlI2 (w : World) (a : Option Addr) (n c : Nat) (hs : List (Option Addr × Nat)) (xss : List (List Int)) : Prop where
  ints : Ints2 w a hs xss
  len : n = xss.length
  cap : n ≤ c
  nil : a = none → c = 0
  small : c ≤ 9223372036854775807
  each : ∀ i (h1 : i < hs.length) (h2 : i < xss.length), SlI w hs[i].1 xss[i].length hs[i].2 xss[i]
section
variable {H : Type} {enc : TypeId × Value → H} {P : Program} {W W' : World}
def goodTs (P : Program) (ts : List TypeId) : Bool := ts.all fun t => P.readableRec t && decide (t < P.types.size)
theorem trodAll_stays (hl : laidOutB P = true) (hb : Below W.heap.size W W') : ∀ (ts : List TypeId) (vs : List Value) (ds : List (DataW H)) (ps : List MemPlace), goodTs P ts = true → DataW.TrodAll enc P W 0 (fun _ => true) true ts vs ds ps →
    (∀ x ∈ ps, x.block < W.heap.size) → DataW.TrodAll enc P W' 0 (fun b => decide (b < W.heap.size)) true ts vs ds ps
  | [], vs, ds, ps, _, h, _ => by
    cases vs <;> cases ds <;> first | exact h | exact h.elim
  | t :: ts, vs, ds, ps, hg, h, hlt => by
    match vs, ds, h with
    | v :: vs, d :: ds, ⟨p, q, h1, h2, he⟩ =>
      subst he
      simp only [goodTs, List.all_cons, Bool.and_eq_true, decide_eq_true_eq] at hg
      exact ⟨p, q, Below.trod hl hg.1.1 hg.1.2 h1 hb (fun x hx => hlt x (List.mem_append_left _ hx)), trodAll_stays hl hb ts vs ds q hg.2 h2 (fun x hx => hlt x (List.mem_append_right _ hx)), rfl⟩
theorem open_sli {t e : TypeId} {base : Nat} {v : Value} {d : DataW H} {p : List MemPlace} (ht : P.underlying t = some (.slice e)) (he : P.underlying e = some (.int .i64)) (hc : P.cellsOf e = 1)
    (hval : Value.okWide P W .any base t v) (h : DataW.Trod enc P W 0 (fun _ => true) true t v d p) : ∃ a n c xs, v = .slice a n c ∧ SlI W a n c xs := by
  obtain ⟨a0, len, cap, rfl⟩ := okWide_slice ht hval
  obtain ⟨fuel, hf⟩ := h
  rcases open_ints ht he hc hf with ⟨hcs, _⟩ | ⟨a, len', cap', zs, hcs, _, hl, hm, hz, _, hcell, _⟩
  · have : Value.slice a0 len cap = .slice none 0 0 := by simpa [Value.cells] using hcs
    cases this
    exact ⟨none, 0, 0, [], rfl, ⟨Ints.nil _ _, rfl, Nat.le_refl _, fun _ => rfl, by omega⟩⟩
  · have : Value.slice a0 len cap = .slice (some a) len' cap' := by simpa [Value.cells] using hcs
    cases this
    simp only [if_true] at hz
    simp only [maxLen] at hm
    refine ⟨some a, len, cap, zs.take len, rfl, ⟨⟨fun i hi => ?_, by simp; omega⟩, by simp; omega, hl, (fun h => by cases h), hm⟩⟩
    simp at hi
    refine ⟨a, rfl, ?_⟩
    rw [hcell i (by omega)]
    simp [Ythekpkamedjloaa.ints, List.getD_eq_getElem?_getD, List.getElem?_eq_getElem (show i < zs.length by omega)]
theorem open_sli2 {t e q : TypeId} {base : Nat} {v : Value} {d : DataW H} {p : List MemPlace} (ht : P.underlying t = some (.slice e)) (he : P.underlying e = some (.slice q)) (hq : P.underlying q = some (.int .i64)) (ce : P.cellsOf e = 1) (cq : P.cellsOf q = 1)
    (hval : Value.okWide P W .any base t v) (h : DataW.Trod enc P W 0 (fun _ => true) true t v d p) : ∃ a n c hs xss, v = .slice a n c ∧ SlI2 W a n c hs xss := by
  obtain ⟨a0, len, cap, rfl⟩ := okWide_slice ht hval
  obtain ⟨fuel, hf⟩ := h
  rcases Go.Deep.open_int_rows ht he hq ce cq hf with ⟨hcs, _⟩ | ⟨a, len', cap', A, L, C, Z, hcs, _, hl, hm, _, hx⟩
  · have : Value.slice a0 len cap = .slice none 0 0 := by simpa [Value.cells] using hcs
    cases this
    exact ⟨none, 0, 0, [], [], rfl, ⟨⟨Row.nil _ _, rfl, fun i h1 => by simp at h1, by simp⟩, rfl, Nat.le_refl _, fun _ => rfl, by omega, fun i h1 => by simp at h1⟩⟩
  · have : Value.slice a0 len cap = .slice (some a) len' cap' := by simpa [Value.cells] using hcs
    cases this
    simp only [maxLen] at hm
    have hZ : ∀ r, r < len → ((Z r).take (L r)).length = L r := fun r hr => by
      have := hx r (by omega)
      simp; omega
    have heach : ∀ r, r < len → SlI W (A r) (L r) (C r) ((Z r).take (L r)) := fun r hr => by
      obtain ⟨h1, h2, h3, h4, h5, h6, h7⟩ := hx r (by omega)
      simp only [maxLen] at h3
      refine ⟨⟨fun i hi => ?_, by rw [hZ r hr]; omega⟩, (hZ r hr).symm, h2, h6, h3⟩
      simp [Ythekpkamedjloaa.ints] at hi
      cases hA : A r with
      | none => have := h6 hA; omega
      | some a' =>
        refine ⟨a', rfl, ?_⟩
        rw [(h7 a' hA).2 i (by omega)]
        simp [Ythekpkamedjloaa.ints, List.getD_eq_getElem?_getD, List.getElem?_eq_getElem (show i < (Z r).length by omega)]
    refine ⟨some a, len, cap, (List.range len).map fun r => (A r, C r), (List.range len).map fun r => (Z r).take (L r), rfl, ⟨⟨fun i hi => ?_, by simp, fun i h1 h2 => ?_, by simp; omega⟩, by simp, hl, (fun h => by cases h), hm, fun i h1 h2 => ?_⟩⟩
    · simp at hi
      refine ⟨a, rfl, ?_⟩
      rw [(hx i (by omega)).1]
      have := hZ i hi
      simp at this
      simp [this]
    · simp at h1
      have := heach i h1
      simp only [List.getElem_map, List.getElem_range]
      rw [hZ i h1]
      exact ⟨this.ints, this.cap⟩
    · simp at h1
      have := heach i h1
      simp only [List.getElem_map, List.getElem_range]
      rw [hZ i h1]
      exact this
/-- An array, or a struct, of ints alone. -/
theorem open_nums {t : TypeId} {base : Nat} {v : Value} {ts : List TypeId} {k : IntKind} (hct : P.cellTypes P.depth t = some ts) (hall : ∀ u ∈ ts, P.underlying u = some (.int k)) (hw : (match P.underlying t with | some (.array _ _) | some (.struct _) => true | _ => false) = true)
    (hval : Value.okWide P W .any base t v) : ∃ xs : List Int, v = .agg (xs.map fun x => Value.int k x).toArray ∧ xs.length = P.cellsOf t := by
  unfold Value.okWide at hval
  have key : ∃ cs, v = .agg cs ∧ cs.size = P.cellsOf t ∧ Row.okWide P W .any base t cs := by
    split at hval
    · exact hval
    · exact hval
    · rename_i h1 h2
      split at hw
      · rename_i n e hu; exact absurd hu (h2 n e)
      · rename_i fs hu; exact absurd hu (h1 fs)
      · cases hw
  obtain ⟨cs, rfl, hsz, ts', hct', _, hcell⟩ := key
  rw [hct] at hct'
  cases hct'
  have hint : ∀ (i : Nat) (u : Value), cs[i]? = some u → ∃ x, u = .int k x := by
    intro i u hu
    obtain ⟨t', ht', hc⟩ := hcell i u hu
    have hk := hall t' (List.mem_of_getElem? ht')
    exact okWide_int (P := P) (w := W) (r := .any) (base := base) (t := t') hk (by simp only [Value.okWide, hk]; exact hc)
  refine ⟨cs.toList.map fun u => match u with | .int _ x => x | _ => 0, ?_, by simp [hsz]⟩
  congr 1
  apply Array.toList_inj.1
  apply List.ext_getElem (by simp)
  intro i h1 h2
  simp only [List.getElem_map, List.map_map]
  obtain ⟨x, hx⟩ := hint i cs.toList[i] (by rw [← Array.getElem?_toList, List.getElem?_eq_getElem h1])
  simp only [Function.comp]
  rw [hx]
theorem open_nums3 {t : TypeId} {base : Nat} {v : Value} {ts : List TypeId} {k : IntKind} (hct : P.cellTypes P.depth t = some ts) (hall : ∀ u ∈ ts, P.underlying u = some (.int k)) (hw : (match P.underlying t with | some (.array _ _) | some (.struct _) => true | _ => false) = true) (h3 : P.cellsOf t = 3)
    (hval : Value.okWide P W .any base t v) : ∃ x y z : Int, v = .agg #[.int k x, .int k y, .int k z] := by
  obtain ⟨xs, rfl, hl⟩ := open_nums hct hall hw hval
  rw [h3] at hl
  match xs, hl with
  | [x, y, z], _ => exact ⟨x, y, z, rfl⟩
end
end Go.Proofs.Ythekpkamedjloaa
