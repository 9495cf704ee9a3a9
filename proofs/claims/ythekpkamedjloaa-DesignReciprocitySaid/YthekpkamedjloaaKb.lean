/- Operations that leave the world alone ('floats'): what they ask and what they yield, computed from partial knowledge of the slots; soundness. -/
import Derived.Test.YthekpkamedjloaaKa
namespace Go.Proofs.Ythekpkamedjloaa
open Go.RowKit

theorem run_val {P : Program} {w : World} {v : Value} {s : Sem Value} (h : s.run P w = .ok v w) : ((do pure (.value (← s)) : Sem Next)).run P w = .ok (.value v) w := by
  simp [h]

/-! ### Arithmetic -/
def kbeq : IntKind → IntKind → Bool
  | .i8, .i8 | .i16, .i16 | .i32, .i32 | .i64, .i64 | .u8, .u8 | .u16, .u16 | .u32, .u32 | .u64, .u64 => true
  | _, _ => false
theorem kbeq_eq {a b : IntKind} (h : kbeq a b = true) : a = b := by cases a <;> cases b <;> first | rfl | cases h
def bitsR (op : BinOp) (k : IntKind) (x y : Int) : Int :=
  let a := BitVec.ofInt k.bits x
  let b := BitVec.ofInt k.bits y
  match op with
  | .and => k.wrap (a &&& b).toNat
  | .or => k.wrap (a ||| b).toNat
  | .xor => k.wrap (a ^^^ b).toNat
  | _ => k.wrap (a &&& ~~~b).toNat
def arith (op : BinOp) (k : IntKind) (a b : Int) (K : Value → Prop) : Prop :=
  match op with
  | .add => ∃ r, k.wrap (a + b) = r ∧ K (.int k r)
  | .sub => ∃ r, k.wrap (a - b) = r ∧ K (.int k r)
  | .mul => ∃ r, k.wrap (a * b) = r ∧ K (.int k r)
  | .quo => b ≠ 0 ∧ ∃ r, k.wrap (a.tdiv b) = r ∧ K (.int k r)
  | .rem => b ≠ 0 ∧ ∃ r, a.tmod b = r ∧ K (.int k r)
  | .and => ∃ r, bitsR .and k a b = r ∧ K (.int k r)
  | .or => ∃ r, bitsR .or k a b = r ∧ K (.int k r)
  | .xor => ∃ r, bitsR .xor k a b = r ∧ K (.int k r)
  | .andNot => ∃ r, bitsR .andNot k a b = r ∧ K (.int k r)
  | .eql => K (.bool (decide (a = b)))
  | .neq => K (.bool (!decide (a = b)))
  | .lss => K (.bool (decide (a < b)))
  | .leq => K (.bool (decide (a ≤ b)))
  | .gtr => K (.bool (decide (b < a)))
  | .geq => K (.bool (decide (b ≤ a)))
  | _ => False
def shiftC (op : BinOp) (k : IntKind) (x y : Int) (K : Value → Prop) : Prop :=
  match op with
  | .shl => 0 ≤ y ∧ ∃ r, k.wrap (x * 2 ^ (min y.toNat k.bits)) = r ∧ K (.int k r)
  | .shr => 0 ≤ y ∧ ∃ r, x.fdiv (2 ^ (min y.toNat k.bits)) = r ∧ K (.int k r)
  | _ => False
def isShift : BinOp → Bool | .shl | .shr => true | _ => false
def ptrT (P : Program) (t : TypeId) : Bool := match P.underlying t with | some (.pointer _) => true | _ => false
def sliT (P : Program) (t : TypeId) : Bool := match P.underlying t with | some (.slice _) => true | _ => false
def boolT (P : Program) (t : TypeId) : Bool := match P.underlying t with | some .bool => true | _ => false
def intT (P : Program) (t : TypeId) : Option IntKind := match P.underlying t with | some (.int k) => some k | _ => none
def ifaT (P : Program) (t : TypeId) : Bool := match P.underlying t with | some (.interface _) => true | _ => false
def eqB (op : BinOp) (b : Bool) (K : Value → Prop) : Prop := match op with | .eql => K (.bool b) | .neq => K (.bool (!b)) | _ => False
/-- Two values compared or combined, otherwise than as integers. -/
def binG (P : Program) (op : BinOp) (t : TypeId) (x y : Operand) (a b : Value) (w : World) (K : Value → Prop) : Prop :=
  match op with
  | .eql => ∃ c, (∀ w', Ext w w' → (do eqGuard op t x y a b; binOp op t a b : Sem Value).run P w' = .ok (.bool c) w') ∧ K (.bool c)
  | .neq => ∃ c, (∀ w', Ext w w' → (do eqGuard op t x y a b; binOp op t a b : Sem Value).run P w' = .ok (.bool c) w') ∧ K (.bool c)
  | _ => ∃ v, (∀ w', Ext w w' → (do eqGuard op t x y a b; binOp op t a b : Sem Value).run P w' = .ok v w') ∧ K v
def binC (P : Program) (op : BinOp) (t : TypeId) (x y : Operand) (a b : Value) (w : World) (K : Value → Prop) : Prop :=
  match a, b with
  | .int ka m, .int kb n => match isShift op with
    | true => shiftC op ka m n K
    | false => match kbeq ka kb with | true => arith op ka m n K | false => False
  | .bool m, .bool n => match boolT P t with | true => eqB op (m == n) K | false => False
  | .pointer p, .pointer none => match ptrT P t with | true => eqB op p.isNone K | false => False
  | .slice p _ _, .slice none _ _ => match sliT P t with | true => eqB op p.isNone K | false => False
  | a, b => binG P op t x y a b w K

theorem run_arith {P : Program} {op : BinOp} {t : TypeId} {x y : Operand} {k : IntKind} {m n : Int} {K : Value → Prop} (hs : isShift op = false) (h : arith op k m n K) :
    ∃ v, K v ∧ ∀ w, (do eqGuard op t x y (.int k m) (.int k n); binOp op t (.int k m) (.int k n) : Sem Value).run P w = .ok v w := by
  have hg : ∀ w, (eqGuard op t x y (.int k m) (.int k n)).run P w = .ok () w := by
    intro w; unfold eqGuard; cases op <;> rfl
  cases op <;> simp only [arith] at h <;> first | exact h.elim | skip
  case quo =>
    obtain ⟨h0, r, hr, hK⟩ := h
    refine ⟨_, hK, fun w => ?_⟩
    simp only [Sem.run_bind, hg, Result.andThen_ok]
    simp [binOp, Op.intDiv, h0, hr]
  case rem =>
    obtain ⟨h0, r, hr, hK⟩ := h
    refine ⟨_, hK, fun w => ?_⟩
    simp only [Sem.run_bind, hg, Result.andThen_ok]
    simp [binOp, Op.intDiv, h0, hr]
  all_goals first
    | (obtain ⟨r, hr, hK⟩ := h
       refine ⟨_, hK, fun w => ?_⟩
       simp only [Sem.run_bind, hg, Result.andThen_ok]
       subst hr
       first | (simp [binOp, Op.intArith]; done) | (simp [binOp, Op.intBits, bitsR]; done))
    | (refine ⟨_, h, fun w => ?_⟩
       simp only [Sem.run_bind, hg, Result.andThen_ok]
       simp [binOp, Op.intCmp] <;> rfl)
    | (cases hs)
theorem run_shiftC {P : Program} {op : BinOp} {t : TypeId} {x y : Operand} {k k' : IntKind} {m n : Int} {K : Value → Prop} (h : shiftC op k m n K) :
    ∃ v, K v ∧ ∀ w, (do eqGuard op t x y (.int k m) (.int k' n); binOp op t (.int k m) (.int k' n) : Sem Value).run P w = .ok v w := by
  have hg : ∀ w, (eqGuard op t x y (.int k m) (.int k' n)).run P w = .ok () w := by
    intro w; unfold eqGuard; cases op <;> rfl
  cases op <;> simp only [shiftC] at h <;> first | exact h.elim | skip
  all_goals
    obtain ⟨h0, r, hr, hK⟩ := h
    refine ⟨_, hK, fun w => ?_⟩
    simp only [Sem.run_bind, hg, Result.andThen_ok]
    subst hr
    have h1 : ¬ n < 0 := by omega
    simp [binOp, Op.shift, h1]
theorem run_eqB {P : Program} {op : BinOp} {t : TypeId} {x y : Operand} {a b : Value} {c : Bool} {K : Value → Prop} (h : eqB op c K)
    (hg : ∀ w, (eqGuard op t x y a b).run P w = .ok () w) (he : ∀ w, (Op.equal t a b).run P w = .ok c w)
    (h1 : binOp .eql t a b = (do pure (.bool (← Op.equal t a b)))) (h2 : binOp .neq t a b = (do pure (.bool (!(← Op.equal t a b))))) :
    ∃ v, K v ∧ ∀ w, (do eqGuard op t x y a b; binOp op t a b : Sem Value).run P w = .ok v w := by
  cases op <;> simp only [eqB] at h <;> first | exact h.elim | skip
  · refine ⟨_, h, fun w => ?_⟩
    simp only [Sem.run_bind, hg, Result.andThen_ok, h1, he]
    simp
  · refine ⟨_, h, fun w => ?_⟩
    simp only [Sem.run_bind, hg, Result.andThen_ok, h2, he]
    simp
theorem equal_ptr_nil {P : Program} {t e : TypeId} (h : P.underlying t = some (.pointer e)) (p : Option Addr) (w : World) : (Op.equal t (.pointer p) (.pointer none)).run P w = .ok p.isNone w := by
  rw [Op.equal, show Op.maxDepth = 9999 + 1 from rfl, Op.equalIn]
  cases p <;> simp [run_underlying h]
theorem equal_sli_nil {P : Program} {t e : TypeId} (h : P.underlying t = some (.slice e)) (p : Option Addr) (m c m' c' : Nat) (w : World) : (Op.equal t (.slice p m c) (.slice none m' c')).run P w = .ok p.isNone w := by
  rw [Op.equal, show Op.maxDepth = 9999 + 1 from rfl, Op.equalIn]
  cases p <;> simp [run_underlying h]
theorem equal_bool {P : Program} {t : TypeId} (h : P.underlying t = some .bool) (m n : Bool) (w : World) : (Op.equal t (.bool m) (.bool n)).run P w = .ok (m == n) w := by
  rw [Op.equal, show Op.maxDepth = 9999 + 1 from rfl, Op.equalIn]
  simp [run_underlying h]
theorem binC_sound {P : Program} {op : BinOp} {t : TypeId} {x y : Operand} {a b : Value} {w : World} {K : Value → Prop} (h : binC P op t x y a b w K) :
    ∃ v, K v ∧ ∀ w', Ext w w' → (do eqGuard op t x y a b; binOp op t a b : Sem Value).run P w' = .ok v w' := by
  unfold binC at h
  split at h
  · split at h
    · obtain ⟨v, hK, hr⟩ := run_shiftC (P := P) (t := t) (x := x) (y := y) h
      exact ⟨v, hK, fun w' _ => hr w'⟩
    · rename_i hs
      split at h
      · rename_i hk
        obtain rfl := kbeq_eq hk
        obtain ⟨v, hK, hr⟩ := run_arith (P := P) (t := t) (x := x) (y := y) hs h
        exact ⟨v, hK, fun w' _ => hr w'⟩
      · exact h.elim
  · split at h
    · rename_i ht
      unfold boolT at ht
      split at ht
      · rename_i hu
        obtain ⟨v, hK, hr⟩ := run_eqB (P := P) (t := t) (x := x) (y := y) h (fun w => by unfold eqGuard; cases op <;> rfl) (equal_bool hu _ _) rfl rfl
        exact ⟨v, hK, fun w' _ => hr w'⟩
      · cases ht
    · exact h.elim
  · split at h
    · rename_i p ht
      unfold ptrT at ht
      split at ht
      · rename_i e hu
        obtain ⟨v, hK, hr⟩ := run_eqB (P := P) (t := t) (x := x) (y := y) h (fun w => by unfold eqGuard; cases op <;> rfl) (equal_ptr_nil hu _) (by cases p <;> rfl) (by cases p <;> rfl)
        exact ⟨v, hK, fun w' _ => hr w'⟩
      · cases ht
    · exact h.elim
  · split at h
    · rename_i p m c m' c' ht
      unfold sliT at ht
      split at ht
      · rename_i e hu
        obtain ⟨v, hK, hr⟩ := run_eqB (P := P) (t := t) (x := x) (y := y) h (fun w => by unfold eqGuard; cases op <;> rfl) (equal_sli_nil hu _ _ _ _ _) rfl rfl
        exact ⟨v, hK, fun w' _ => hr w'⟩
      · cases ht
    · exact h.elim
  · unfold binG at h
    split at h <;> (obtain ⟨v, hr, hK⟩ := h; exact ⟨_, hK, hr⟩)

/-! ### Loads -/
def rowAt (w : World) (ad : Addr) : Nat → List Value → Prop
  | _, [] => True
  | i, v :: vs => w.cell? (ad.add i) = some v ∧ rowAt w ad (i + 1) vs
def ldC (P : Program) (t : TypeId) (ad : Addr) (w : World) (k : Value → Prop) : Prop :=
  match aggT P t with
  | some true => onE (sizeT P t) fun n => shp P 6 t fun v => (match v with | .agg cs => cs.size = n ∧ rowAt w ad 0 cs.toList | _ => False) ∧ k v
  | some false => shp P 1 t fun v => w.cell? ad = some v ∧ k v
  | none => False
/-- Every cell reads as it did. -/
def SameC (w w' : World) : Prop := ∀ p v, w.cell? p = some v → w'.cell? p = some v
theorem Ext.sameC {w w' : World} (h : Ext w w') : SameC w w' := fun _ _ hc => h.cell hc
theorem rowAt_load {P : Program} {w w' : World} {ad : Addr} (hw : SameC w w') : ∀ (vs : List Value) (i : Nat) (acc : Array Value), rowAt w ad i vs → (loadCellsFrom ad i vs.length acc).run P w' = .ok (acc ++ vs.toArray) w'
  | [], i, acc, _ => by simp [loadCellsFrom]
  | v :: vs, i, acc, ⟨hv, h⟩ => by
    have hc := hw _ _ hv
    have := rowAt_load hw vs (i + 1) (acc.push v) h (P := P)
    simp only [List.length_cons, loadCellsFrom, load, Sem.run_bind]
    rw [show (Sem.load .plain (ad.add i) .pure : Sem Value).run P w' = .ok v w' by simp [Sem.run, hc]]
    simp only [Result.andThen_ok]
    rw [this]
    simp
theorem ldC_sound' {P : Program} {t : TypeId} {ad : Addr} {w : World} {k : Value → Prop} (h : ldC P t ad w k) :
    ∃ v, k v ∧ ∀ w', SameC w w' → (loadVar t ad).run P w' = .ok v w' := by
  unfold ldC at h
  split at h
  · rename_i ha
    obtain ⟨n, hn, h⟩ := onE_elim h
    obtain ⟨v, h, hk⟩ := shp_elim _ _ _ h
    refine ⟨v, hk, fun w' hw => ?_⟩
    split at h
    · rename_i cs
      obtain ⟨hs, hr⟩ := h
      have := rowAt_load (P := P) hw cs.toList 0 #[] hr
      simp only [loadVar, Sem.run_bind, run_isAgg ha, Result.andThen_ok, if_true, run_sizeOf hn, loadCells]
      rw [show n = cs.toList.length by simp [hs], this]
      simp
    · exact h.elim
  · rename_i ha
    obtain ⟨v, hv, hk⟩ := shp_elim _ _ _ h
    refine ⟨v, hk, fun w' hw => ?_⟩
    have hc := hw _ _ hv
    simp only [loadVar, Sem.run_bind, run_isAgg ha, Result.andThen_ok]
    simp [load, Sem.run, hc]
  · exact h.elim
theorem ldC_sound {P : Program} {t : TypeId} {ad : Addr} {w : World} {k : Value → Prop} (h : ldC P t ad w k) :
    ∃ v, k v ∧ ∀ w', Ext w w' → (loadVar t ad).run P w' = .ok v w' :=
  let ⟨v, hk, hr⟩ := ldC_sound' h; ⟨v, hk, fun w' hw => hr w' (Ext.sameC hw)⟩
end Go.Proofs.Ythekpkamedjloaa
