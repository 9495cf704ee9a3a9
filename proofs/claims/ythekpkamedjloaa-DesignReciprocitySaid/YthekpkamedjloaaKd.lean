/- 'fl': all operations that leave the world alone, and its soundness; building structs. -/
import Derived.Test.YthekpkamedjloaaKc
namespace Go.Proofs.Ythekpkamedjloaa
open Go.RowKit

def setAll (cs : List Value) (off : Nat) : List Value → List Value
  | [] => cs
  | v :: vs => setAll (cs.set off v) (off + 1) vs
theorem setAll_length (vs : List Value) : ∀ (cs : List Value) (off : Nat), (setAll cs off vs).length = cs.length := by
  induction vs with
  | nil => intro cs off; rfl
  | cons v vs ih => intro cs off; simp [setAll, ih]
def fillL (place : Nat → Option (Nat × Nat)) (cells : List Value) : List (Nat × Value) → Option (List Value)
  | [] => some cells
  | p :: rest =>
    match place p.1 with
    | none => none
    | some os => match Nat.beq p.2.cells.toList.length os.2 && Nat.ble (os.1 + p.2.cells.toList.length) cells.length with
      | true => fillL place (setAll cells os.1 p.2.cells.toList) rest
      | false => none
theorem foldl_setAll (off : Nat) : ∀ (vs : List Value) (j : Nat) (cells : Array Value),
    ((vs.zipIdx j).foldl (fun cs p => cs.setIfInBounds (off + p.2) p.1) cells).toList = setAll cells.toList (off + j) vs := by
  intro vs
  induction vs with
  | nil => intro j cells; simp [setAll]
  | cons v vs ih => intro j cells; simp [setAll, ih, Nat.add_assoc]
theorem fill_eq (place : Nat → Option (Nat × Nat)) : ∀ (parts : List (Nat × Value)) (cells : List Value) (r : List Value), fillL place cells parts = some r →
    Instr.fill place cells.toArray parts = some r.toArray := by
  intro parts
  induction parts with
  | nil => intro cells r h; simp [fillL] at h; simp [Instr.fill, h]
  | cons p rest ih =>
    intro cells r h
    obtain ⟨i, v⟩ := p
    unfold fillL at h
    split at h
    · cases h
    · rename_i os hp
      split at h
      · rename_i hc
        simp only [Bool.and_eq_true] at hc
        have h1 : v.cells.size = os.2 := by have := Nat.eq_of_beq_eq_true hc.1; simpa using this
        have h2 : os.1 + v.cells.size ≤ cells.length := by have := Nat.le_of_ble_eq_true hc.2; simpa using this
        have := ih _ _ h
        unfold Instr.fill
        rw [show place i = some (os.1, os.2) from hp]
        simp only []
        rw [if_neg (by simp only [List.size_toArray]; simp; omega)]
        rw [← this]
        congr 1
        apply Array.toList_inj.1
        rw [← Array.foldl_toList]
        have e := foldl_setAll os.1 v.cells.toList 0 cells.toArray
        simpa [Array.toList_zipIdx] using e
      · cases h
def zeroT (P : Program) (t : TypeId) : Option Value := match P.info? t with | some i => i.zero | none => none
theorem run_zero {P : Program} {t : TypeId} {z : Value} (h : zeroT P t = some z) (w : World) : (zeroValue t).run P w = .ok z w := by
  unfold zeroT at h
  split at h
  · rename_i i hi
    simp [zeroValue, typeInfo, hi, h]
  · cases h
def placesL (P : Program) : List Field → Option (List (Nat × Nat))
  | [] => some []
  | f :: fs => match sizeT P f.type, placesL P fs with | some n, some l => some ((f.offset, n) :: l) | _, _ => none
theorem run_places {P : Program} (w : World) : ∀ (fs : List Field) (l : List (Nat × Nat)), placesL P fs = some l →
    (fs.mapM (fun f => do pure (f.offset, ← sizeOf f.type) : Field → Sem (Nat × Nat))).run P w = .ok l w := by
  intro fs
  induction fs with
  | nil => intro l h; simp [placesL] at h; subst h; rfl
  | cons f fs ih =>
    intro l h
    unfold placesL at h
    split at h
    · rename_i n l' hn hl
      cases h
      have := ih l' hl
      simp only [List.mapM_cons, Sem.run_bind, run_sizeOf hn, Result.andThen_ok, Sem.run_pure]
      rw [this]
      simp
    · cases h
def buildV (P : Program) (t : TypeId) (parts : List (Nat × Value)) : Option Value :=
  match zeroT P t, P.underlying t with
  | some z, some (.struct fs) => (match placesL P fs.toList with | some l => (match fillL (l[·]?) z.cells.toList parts with | some cs => some (.agg cs.toArray) | none => none) | none => none)
  | some z, some (.array _ e) => (match sizeT P e with | some n => (match fillL (fun i => some (i * n, n)) z.cells.toList parts with | some cs => some (.agg cs.toArray) | none => none) | none => none)
  | _, _ => none
theorem run_build {P : Program} {t : TypeId} {parts : List (Nat × Value)} {v : Value} (h : buildV P t parts = some v) (w : World) : (Instr.build t parts.toArray).run P w = .ok v w := by
  unfold buildV at h
  split at h
  · rename_i z fs hz hu
    split at h
    · rename_i l hl
      split at h
      · rename_i cs hc
        cases h
        have hp := run_places w fs.toList l hl
        have hf := fill_eq _ _ _ _ hc
        simp only [Array.toArray_toList] at hf
        simp only [Instr.build, Sem.run_bind, run_zero hz, Result.andThen_ok, run_underlying hu]
        rw [show (fs.mapM (fun f => do pure (f.offset, ← sizeOf f.type) : Field → Sem (Nat × Nat))).run P w = .ok l.toArray w by
          rw [← Array.toArray_toList (xs := fs), List.mapM_toArray]; simp only [map_eq_pure_bind, Sem.run_bind, hp]; simp]
        simp only [Result.andThen_ok]
        simp [hf]
      · cases h
    · cases h
  · rename_i z m e hz hu
    split at h
    · rename_i n hn
      split at h
      · rename_i cs hc
        cases h
        have hf := fill_eq _ _ _ _ hc
        simp only [Array.toArray_toList] at hf
        simp [Instr.build, run_zero hz, run_underlying hu, run_sizeOf hn, hf]
      · cases h
    · cases h
  · cases h
def partsE (L : Env) : List (Nat × Operand) → Option (List (Nat × Value))
  | [] => some []
  | p :: ps => match ev L p.2, partsE L ps with | some v, some vs => some ((p.1, v) :: vs) | _, _ => none
theorem Kn.partsE {n : Nat} {a : Act} {L : Env} (h : Kn n a L) : ∀ {ps : List (Nat × Operand)} {vs : List (Nat × Value)}, partsE L ps = some vs → ps.map (fun p => (p.1, a.eval p.2)) = vs := by
  intro ps
  induction ps with
  | nil => intro vs hv; simp [Ythekpkamedjloaa.partsE] at hv; simp [hv]
  | cons x xs ih =>
    intro vs hv
    unfold Ythekpkamedjloaa.partsE at hv
    split at hv
    · rename_i v us h1 h2
      cases hv
      simp [h.ev h1, ih h2]
    · cases hv

def pickV (t : Bool) (a b : Value) : Value := match a, b with | .bool x, .bool y => .bool (match t with | true => x | false => y) | a, b => match t with | true => a | false => b
theorem pickV_eq (t : Bool) (a b : Value) : pickV t a b = if t then a else b := by
  unfold pickV
  split <;> cases t <;> rfl

/-- Is it an operation that leaves the world alone? -/
def isFl (o : Op) : Bool :=
  match o with
  | .move _ | .assign _ | .pick .. | .load .. | .binOp .. | .unOp .. | .convert .. | .fieldAddr .. | .indexAddr .. | .index .. | .field .. | .slice .. | .extract .. | .nilCheck _
  | .makeInterface .. | .makeFunc .. | .build .. => true
  | .call c => match c.callee with
    | .builtin .len | .builtin .cap | .builtin .min | .builtin .max => true
    | _ => false
  | _ => false
def fl (P : Program) (L : Env) (o : Op) (ty : TypeId) (w : World) (k : Value → Prop) : Prop :=
  match o with
  | .move x => onE (ev L x) k
  | .assign x => onE (ev L x) k
  | .pick c a b => onE (ev L c) fun c => match c with | .bool t => onE (ev L a) fun va => onE (ev L b) fun vb => k (pickV t va vb) | _ => False
  | .load t x => onE (ev L x) fun p => match p with | .pointer (some ad) => ldC P t ad w k | _ => False
  | .binOp op t x y _ => onE (ev L x) fun a => onE (ev L y) fun b => binC P op t x y a b w k
  | .unOp op _ x => onE (ev L x) fun v => unC op v k
  | .convert s d x => onE (ev L x) fun v => cvC P s d v k
  | .fieldAddr s x f => onE (ev L x) fun v => faC P s v f k
  | .indexAddr t x i => onE (ev L x) fun v => onE (ev L i) fun iv => iaC P t v iv k
  | .index t x i => onE (ev L x) fun v => onE (ev L i) fun iv => runC P (Instr.index t v iv) ty w k
  | .field t x f => onE (ev L x) fun v => fdC P t v f k
  | .slice t x lo hi mx => onE (ev L x) fun v => onE (optE L lo) fun lo => onE (optE L hi) fun hi => onE (optE L mx) fun mx => slC P t v lo hi mx k
  | .extract x i => onE (ev L x) fun v => exC v i k
  | .nilCheck x => onE (ev L x) fun v => ncC v k
  | .makeInterface t x => onE (ev L x) fun v => miC P t v k
  | .makeFunc fn f c => onE (evs L f.toList) fun fv => onE (evs L c.toList) fun cv => k (.func fn fv.toArray cv.toArray)
  | .build t ps => onE (partsE L ps.toList) fun vs => onE (buildV P t vs) k
  | .call c => match c.callee, c.args.toList, c.argTypes.toList with
    | .builtin .len, [x], [t] => onE (ev L x) fun v => lnC P t v k
    | .builtin .cap, [x], [t] => onE (ev L x) fun v => match v, sliT P t with | .slice _ _ n, true => k (.int .i64 n) | _, _ => False
    | .builtin .min, xs, _ => onE (evs L xs) fun vs => mmC false vs k
    | .builtin .max, xs, _ => onE (evs L xs) fun vs => mmC true vs k
    | _, _, _ => False
  | _ => False
theorem fl_sound {P : Program} {n : Nat} {L : Env} {a : Act} {o : Oper} {w : World} {k : Value → Prop} (hn : Kn n a L) (h : fl P L o.op o.type w k) :
    ∃ v, k v ∧ ∀ w', Ext w w' → (execOp a.eval o).run P w' = .ok (.value v) w' := by
  obtain ⟨dst, op, ty, pos, aft, gd⟩ := o
  simp only at h
  unfold fl at h
  split at h
  · obtain ⟨v, hv, hk⟩ := onE_elim h
    exact ⟨v, hk, fun w' _ => by simp [execOp, hn.ev hv]⟩
  · obtain ⟨v, hv, hk⟩ := onE_elim h
    exact ⟨v, hk, fun w' _ => by simp [execOp, hn.ev hv]⟩
  · obtain ⟨c, hc, h⟩ := onE_elim h
    split at h
    · obtain ⟨va, ha, h⟩ := onE_elim h
      obtain ⟨vb, hb, hk⟩ := onE_elim h
      refine ⟨_, hk, fun w' _ => ?_⟩
      simp [execOp, hn.ev hc, hn.ev ha, hn.ev hb, asBool, pickV_eq]
    · exact h.elim
  · obtain ⟨p, hp, h⟩ := onE_elim h
    split at h
    · obtain ⟨v, hk, hr⟩ := ldC_sound h
      exact ⟨v, hk, fun w' hw => run_val (by simp [Instr.loadAt, hn.ev hp, Instr.sureAddr, hr w' hw])⟩
    · exact h.elim
  · obtain ⟨va, ha, h⟩ := onE_elim h
    obtain ⟨vb, hb, h⟩ := onE_elim h
    obtain ⟨v, hk, hr⟩ := binC_sound h
    refine ⟨v, hk, fun w' hw => ?_⟩
    have := hr w' hw
    rw [← hn.ev ha, ← hn.ev hb] at this
    exact run_val this
  · obtain ⟨va, ha, h⟩ := onE_elim h
    obtain ⟨v, hk, hr⟩ := unC_sound (P := P) h
    exact ⟨v, hk, fun w' _ => run_val (by rw [hn.ev ha]; exact hr w')⟩
  · obtain ⟨va, ha, h⟩ := onE_elim h
    obtain ⟨v, hk, hr⟩ := cvC_sound (P := P) h
    exact ⟨v, hk, fun w' _ => run_val (by rw [hn.ev ha]; exact hr w')⟩
  · obtain ⟨va, ha, h⟩ := onE_elim h
    obtain ⟨v, hk, hr⟩ := faC_sound (P := P) h
    exact ⟨v, hk, fun w' _ => run_val (by rw [hn.ev ha]; exact hr w')⟩
  · obtain ⟨va, ha, h⟩ := onE_elim h
    obtain ⟨vb, hb, h⟩ := onE_elim h
    obtain ⟨v, hk, hr⟩ := iaC_sound (P := P) h
    exact ⟨v, hk, fun w' _ => run_val (by rw [hn.ev ha, hn.ev hb]; exact hr w')⟩
  · obtain ⟨va, ha, h⟩ := onE_elim h
    obtain ⟨vb, hb, h⟩ := onE_elim h
    obtain ⟨v, hk, hr⟩ := runC_sound (P := P) h
    exact ⟨v, hk, fun w' hw => run_val (by rw [hn.ev ha, hn.ev hb]; exact hr w' hw)⟩
  · obtain ⟨va, ha, h⟩ := onE_elim h
    obtain ⟨v, hk, hr⟩ := fdC_sound (P := P) h
    exact ⟨v, hk, fun w' _ => run_val (by rw [hn.ev ha]; exact hr w')⟩
  · obtain ⟨va, ha, h⟩ := onE_elim h
    obtain ⟨v1, h1, h⟩ := onE_elim h
    obtain ⟨v2, h2, h⟩ := onE_elim h
    obtain ⟨v3, h3, h⟩ := onE_elim h
    obtain ⟨v, hk, hr⟩ := slC_sound (P := P) h
    exact ⟨v, hk, fun w' _ => run_val (by rw [hn.ev ha, hn.optE h1, hn.optE h2, hn.optE h3]; exact hr w')⟩
  · obtain ⟨va, ha, h⟩ := onE_elim h
    obtain ⟨v, hk, hr⟩ := exC_sound (P := P) h
    exact ⟨v, hk, fun w' _ => run_val (by rw [hn.ev ha]; exact hr w')⟩
  · obtain ⟨va, ha, h⟩ := onE_elim h
    unfold ncC at h
    split at h
    · obtain ⟨ad, rfl, h⟩ := onE_elim h
      exact ⟨_, h, fun w' _ => by simp [execOp, hn.ev ha]⟩
    · exact ⟨_, h, fun w' _ => by simp [execOp, hn.ev ha]⟩
    · exact ⟨_, h, fun w' _ => by simp [execOp, hn.ev ha]⟩
    · exact h.elim
  · obtain ⟨va, ha, h⟩ := onE_elim h
    obtain ⟨v, hk, hr⟩ := miC_sound (P := P) h
    exact ⟨v, hk, fun w' _ => run_val (by rw [hn.ev ha]; exact hr w')⟩
  · rename_i fn f c
    obtain ⟨fv, hf, h⟩ := onE_elim h
    obtain ⟨cv, hc, hk⟩ := onE_elim h
    refine ⟨_, hk, fun w' _ => run_val ?_⟩
    have e1 := hn.evs hf
    have e2 := hn.evs hc
    have e1' : f.map a.eval = fv.toArray := by apply Array.toList_inj.1; rw [Array.toList_map]; exact e1
    have e2' : c.map a.eval = cv.toArray := by apply Array.toList_inj.1; rw [Array.toList_map]; exact e2
    simp [Instr.makeFunc, e1', e2']
  · rename_i t ps
    obtain ⟨vs, hv, h⟩ := onE_elim h
    obtain ⟨u, hu, hk⟩ := onE_elim h
    refine ⟨_, hk, fun w' _ => run_val ?_⟩
    have e := hn.partsE hv
    have e' : ps.map (fun p => (p.1, a.eval p.2)) = vs.toArray := by apply Array.toList_inj.1; rw [Array.toList_map]; exact e
    have := run_build hu w'
    rw [← e'] at this
    exact this
  · rename_i c
    obtain ⟨cal, as, ts⟩ := c
    obtain ⟨as⟩ := as
    obtain ⟨ts⟩ := ts
    simp only at h
    split at h
    · rename_i x t
      obtain ⟨v, hv, h⟩ := onE_elim h
      obtain ⟨u, hk, hr⟩ := lnC_sound (P := P) (ty := ty) h
      refine ⟨u, hk, fun w' _ => ?_⟩
      simp [execOp, resolve, invoke, builtin, hn.ev hv, hr w']
    · rename_i x t
      obtain ⟨v, hv, h⟩ := onE_elim h
      split at h
      · rename_i q1 q2 q3 q4 hs
        unfold sliT at hs
        split at hs
        · rename_i e hu
          refine ⟨_, h, fun w' _ => ?_⟩
          simp [execOp, resolve, invoke, builtin, hn.ev hv, Builtin.cap_, run_underlying hu, goInt]
        · cases hs
      · exact h.elim
    · obtain ⟨vs, hv, h⟩ := onE_elim h
      obtain ⟨u, hk, hr⟩ := mmC_sound (P := P) (ts := ts.toArray) (ty := ty) h
      refine ⟨u, hk, fun w' _ => ?_⟩
      have e := hn.evs hv
      have := hr w'
      simp only [Bool.false_eq_true, if_false] at this
      simp [execOp, resolve, invoke, builtin, e, this]
    · obtain ⟨vs, hv, h⟩ := onE_elim h
      obtain ⟨u, hk, hr⟩ := mmC_sound (P := P) (ts := ts.toArray) (ty := ty) h
      refine ⟨u, hk, fun w' _ => ?_⟩
      have e := hn.evs hv
      have := hr w'
      simp only [if_true] at this
      simp [execOp, resolve, invoke, builtin, e, this]
    · exact h.elim
  · exact h.elim
end Go.Proofs.Ythekpkamedjloaa
