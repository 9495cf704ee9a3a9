/- Operations that turn the world, and calls. -/
import Derived.Test.YthekpkamedjloaaKd
namespace Go.Proofs.Ythekpkamedjloaa
open Go.RowKit

/-! ### Functions -/
def Enters (P : Program) (f : FuncId) : Prop := ∀ args w, (callFunc f args).run P w = .ok (.enter f args) w
theorem enters_of {P : Program} {f : FuncId} {fn : Func} {c : Code} (h : P.funcs[f]? = some fn) (hb : fn.body = some c) (hn : (fn.name == "runtime.NumGoroutine") = false) : Enters P f := by
  intro args w
  have hn' : ¬ fn.name = "runtime.NumGoroutine" := by simpa using hn
  simp [callFunc, h, hb, hn']
theorem run_newRow {P : Program} (e : TypeId) (cs : Array Value) (w : World) : (newRow e cs).run P w = .ok ⟨w.heap.size, 0, none⟩ (w.alloc (.cells cs e)) := rfl
theorem run_newObj {P : Program} (o : Obj) (w : World) : (newObj o).run P w = .ok w.heap.size (w.alloc o) := rfl
/-! ### Blocks of book-keeping: the records of loops over functions that are in a round, and the blocks for their deferred calls -/
def isFr : Obj → Bool | .deferred _ => true | .loop q => (match q.state with | .busy => true | _ => false) | _ => false
structure Keeps (w w' : World) : Prop where
  size : w.heap.size ≤ w'.heap.size
  same : ∀ (k : Nat) (o : Obj), w.heap[k]? = some o → isFr o = true → w'.heap[k]? = some o
theorem Keeps.refl (w : World) : Keeps w w := ⟨Nat.le_refl _, fun _ _ h _ => h⟩
theorem Keeps.trans {a b c : World} (h : Keeps a b) (k : Keeps b c) : Keeps a c := ⟨Nat.le_trans h.size k.size, fun i o hi ho => k.same i o (h.same i o hi ho) ho⟩
theorem Ext.keeps {w w' : World} (h : Ext w w') : Keeps w w' := ⟨h.size, fun k o hk _ => (h.block k (Array.getElem?_eq_some_iff.1 hk).1).trans hk⟩
theorem Keeps.drew (w : World) : Keeps w w.drew := Ext.keeps (Ext.drew w)
theorem Keeps.alloc (w : World) (o : Obj) : Keeps w (w.alloc o) := Ext.keeps (Ext.alloc w o)
theorem Keeps.setCell (w : World) (a : Addr) (v : Value) : Keeps w (w.setCell a v) :=
  ⟨by show w.heap.size ≤ (w.heap.modify _ _).size; rw [Array.size_modify]; exact Nat.le_refl _, fun k o hk ho => by
    by_cases e : k = a.block
    · subst e
      obtain ⟨hlt, hk'⟩ := Array.getElem?_eq_some_iff.1 hk
      show (w.heap.modify a.block _)[a.block]? = some o
      rw [Array.getElem?_eq_getElem (by rw [Array.size_modify]; exact hlt), Array.getElem_modify_self, hk']
      cases o <;> first | rfl | (simp [isFr] at ho)
    · exact (Below.heap_setCell w a v k e).trans hk⟩
theorem Keeps.grown {w w' : World} {row : Option Nat} (hg : w.grownBy w' row) (hrow : ∀ (j : Nat) (o : Obj), row = some j → w.heap[j]? = some o → isFr o = false) : Keeps w w' :=
  ⟨hg.size, fun k o hk ho => by
    refine (hg.block k (Array.getElem?_eq_some_iff.1 hk).1 ?_).trans hk
    intro e
    rw [hrow k o e.symm hk] at ho; cases ho⟩
theorem fr_of_cell {w : World} {a : Addr} {v : Value} (h : w.cell? a = some v) {o : Obj} (ho : w.heap[a.block]? = some o) : isFr o = false := by
  unfold World.cell? at h
  rw [ho] at h
  cases o <;> simp_all [isFr]
/-- Called so, the function returns, and R holds of its value and the world behind. -/
structure Fn (P : Program) (f : FuncId) (args : List Value) (w : World) (R : Value → World → Prop) : Prop where
  enters : Enters P f
  calls : Calls P f args.toArray w fun e w' => ∃ v, e = .returned v ∧ R v w' ∧ Keeps w w'
theorem Fn.mono {P : Program} {f : FuncId} {args : List Value} {w : World} {R R' : Value → World → Prop} (h : Fn P f args w R) (hr : ∀ v w', R v w' → R' v w') : Fn P f args w R' :=
  ⟨h.enters, h.calls.mono fun _ w' ⟨v, hv, hR, hk⟩ => ⟨v, hv, hr v w' hR, hk⟩⟩
theorem Fn.use {P : Program} {f : FuncId} {args : List Value} {w : World} {R R' : Value → World → Prop} (h : Fn P f args w R) (hr : ∀ v w', R v w' → R' v w') : Fn P f args w R' := h.mono hr
theorem Fn.keep {P : Program} {f : FuncId} {args : List Value} {w : World} {R : Value → World → Prop} (h : Fn P f args w R) : Fn P f args w fun v w' => R v w' ∧ Keeps w w' :=
  ⟨h.enters, h.calls.mono fun _ _ ⟨v, hv, hR, hk⟩ => ⟨v, hv, ⟨hR, hk⟩, hk⟩⟩
/-- A call of the yield of loop l. -/
def Yd (P : Program) (l : Nat) (args : List Value) (w : World) (K : Value → World → Prop) : Prop :=
  ∃ fn tmps assign body, (Instr.yield l args.toArray).run P w = .ok (.round l fn tmps assign body) w ∧ RoundIn Fence.wide 0 P l fn tmps assign body w (fun e w' => ∃ v, e = .returned v ∧ K v w' ∧ Keeps w w')
theorem Yd.use {P : Program} {l : Nat} {args : List Value} {w : World} {R R' : Value → World → Prop} (h : Yd P l args w R) (hr : ∀ v w', R v w' → R' v w') : Yd P l args w R' :=
  let ⟨fn, tm, as, bd, h1, h2⟩ := h; ⟨fn, tm, as, bd, h1, h2.mono fun _ w' ⟨v, hv, hR, hk⟩ => ⟨v, hv, hr v w' hR, hk⟩⟩
/-- A method called on an interface value of dynamic type t. -/
def Mth (P : Program) (t : TypeId) (v : Value) (name : String) (args : List Value) (w : World) (K : Value → World → Prop) : Prop :=
  ∃ g r, (method (P.types.size + Made.depth) t v name).run P w = .ok (g, r) w ∧ Fn P g (r :: args) w K

/-! ### Stores -/
def oneC (v : Value) : Bool := match v with | .agg _ | .tuple _ => false | _ => true
/-- A store of one cell. -/
def sto (w : World) (ad : Addr) (v : Value) (k : World → Prop) : Prop := (∃ u, w.cell? ad = some u) ∧ w.frozen? ad = false ∧ ∀ w', w' = w.setCell ad v → k w'
def stN (ad : Addr) : Nat → List Value → World → (World → Prop) → Prop
  | _, [], w, k => k w
  | i, v :: vs, w, k => match oneC v with | true => sto w (ad.add i) v fun w' => stN ad (i + 1) vs w' k | false => False
def stC (P : Program) (t : TypeId) (ad : Addr) (v : Value) (w : World) (k : World → Prop) : Prop :=
  match v.cells.toList, sizeT P t with
  | [c], some 1 => match oneC c with | true => sto w ad c k | false => False
  | cs, some n => match Nat.beq cs.length n with | true => stN ad 0 cs w k | false => False
  | _, none => False
theorem stN_sound {P : Program} {ad : Addr} : ∀ (vs : List Value) (i : Nat) (w : World) (k : World → Prop), stN ad i vs w k → ∃ w', k w' ∧ Keeps w w' ∧ (storeCells ad vs i).run P w = .ok () w' := by
  intro vs
  induction vs with
  | nil => intro i w k h; exact ⟨w, h, Keeps.refl w, by simp [storeCells]⟩
  | cons v vs ih =>
    intro i w k h
    unfold stN at h
    split at h
    · rename_i ho
      obtain ⟨⟨u, hu⟩, hf, h⟩ := h
      obtain ⟨w', hk, hkp, hr⟩ := ih _ _ _ (h _ rfl)
      refine ⟨w', hk, (Keeps.setCell _ _ _).trans hkp, ?_⟩
      simp only [storeCells, Sem.run_bind]
      rw [show (store (ad.add i) v).run P w = .ok () (w.setCell (ad.add i) v) by
        cases v <;> first | (cases ho; done) | simp [store, Sem.run, hu, hf]]
      simpa using hr
    · exact h.elim
theorem stC_sound {P : Program} {t : TypeId} {ad : Addr} {v : Value} {w : World} {k : World → Prop} (h : stC P t ad v w k) : ∃ w', k w' ∧ Keeps w w' ∧ (storeVar t ad v).run P w = .ok () w' := by
  unfold stC at h
  split at h
  · rename_i c hc hs
    split at h
    · rename_i ho
      obtain ⟨⟨u, hu⟩, hf, h⟩ := h
      refine ⟨_, h _ rfl, Keeps.setCell _ _ _, ?_⟩
      have hsz : v.cells.size = 1 := by rw [← Array.length_toList, hc]; rfl
      simp only [storeVar, Sem.run_bind, run_sizeOf hs, Result.andThen_ok, hsz, ne_eq, not_true_eq_false, if_false, hc, storeCells]
      have : ad.add 0 = ad := by simp [Addr.add]
      rw [this, show (store ad c).run P w = .ok () (w.setCell ad c) by
        cases c <;> first | (cases ho; done) | simp [store, Sem.run, hu, hf]]
      rfl
    · exact h.elim
  · rename_i n hs h1
    split at h
    · rename_i hb
      obtain ⟨w', hk, hkp, hr⟩ := stN_sound (P := P) _ _ _ _ h
      refine ⟨w', hk, hkp, ?_⟩
      have hsz : v.cells.size = n := by have := Nat.eq_of_beq_eq_true hb; simpa using this
      simp only [storeVar, Sem.run_bind, run_sizeOf hs, Result.andThen_ok, hsz, ne_eq, not_true_eq_false, if_false]
      exact hr
    · exact h.elim
  · exact h.elim

/-! ### New blocks -/
def newC (w : World) (o : Obj) (k : Nat → World → Prop) : Prop := ∀ b w', b = w.heap.size → w' = w.alloc o → k b w'
theorem newC_use {w : World} {o : Obj} {k : Nat → World → Prop} (h : newC w o k) : k w.heap.size (w.alloc o) := h _ _ rfl rfl
def bytesT (P : Program) (t : TypeId) : Option Nat := match P.info? t with | some i => some i.bytes | none => none
def baseL (z : List Value) (n : Nat) : List Value := (List.range n).map fun i => (z[i % z.length]?).getD default
def bsC (P : Program) (t : TypeId) (len : Nat) (parts : List (Nat × Value)) (w : World) (K : Value → World → Prop) : Prop :=
  onE (slT P t) fun e => onE (sizeT P e) fun n => onE (zeroT P e) fun z => match Nat.ble (len * n) 16777216 with
    | true => onE (fillL (fun i => some (i * n, n)) (baseL z.cells.toList (len * n)) parts) fun cs => newC w (.cells cs.toArray e) fun b w' => K (.slice (some ⟨b, 0, none⟩) len len) w'
    | false => False
theorem base_eq (z : Array Value) (n : Nat) : (Array.range n).map (fun i => z[i % z.size]!) = (baseL z.toList n).toArray := by
  apply Array.toList_inj.1
  simp [baseL, Array.getElem!_eq_getD]
theorem bsC_sound {P : Program} {t : TypeId} {len : Nat} {parts : List (Nat × Value)} {w : World} {K : Value → World → Prop} (h : bsC P t len parts w K) :
    ∃ v w', K v w' ∧ Keeps w w' ∧ (Instr.buildSlice t len parts.toArray).run P w = .ok v w' := by
  replace h := onE_elim h; obtain ⟨e, he, h⟩ := h
  replace h := onE_elim h; obtain ⟨n, hn, h⟩ := h
  replace h := onE_elim h; obtain ⟨z, hz, h⟩ := h
  split at h
  · rename_i hb
    replace h := onE_elim h; obtain ⟨cs, hc, h⟩ := h
    have hb' : ¬ (len * n > 2 ^ 24) := by have := Nat.le_of_ble_eq_true hb; omega
    unfold slT at he
    split at he
    · rename_i e' hu
      cases he
      have hf := fill_eq _ _ _ _ hc
      rw [← base_eq] at hf
      refine ⟨_, _, newC_use h, Keeps.alloc _ _, ?_⟩
      simp only [Instr.buildSlice, Sem.run_bind, run_underlying hu, Result.andThen_ok, run_sizeOf hn, hb', if_false]
      by_cases h0 : len * n = 0
      · have hf0 : Instr.fill (fun i => some (i * n, n)) ((Array.range (len * n)).map (fun i => (#[] : Array Value)[i % (#[] : Array Value).size]!)) parts = some cs.toArray := by
          rw [← hf, h0]; congr 1; apply Array.toList_inj.1; simp [Array.toList_range]
        rw [h0] at hf0
        simp only [h0, if_true, Sem.run_bind, Sem.run_pure, Result.andThen_ok]
        rw [hf0]
        simp [run_newRow]
      · simp [h0, run_zero hz, hf, run_newRow]
    · cases he
  · exact h.elim
def mkC (P : Program) (t : TypeId) (l c : Value) (w : World) (K : Value → World → Prop) : Prop :=
  match l, c with
  | .int .i64 l, .int .i64 c => onE (slT P t) fun e => onE (bytesT P e) fun by_ => onE (zeroT P e) fun z => match sizeT P e, z.cells.toList with
    | some 1, [z1] => (0 ≤ l ∧ l ≤ c ∧ (by_ : Int) * c ≤ 140737488355328 ∧ c ≤ 140737488355328) ∧ newC w (.cells (Array.replicate c.toNat z1) e) fun b w' => K (.slice (some ⟨b, 0, none⟩) l.toNat c.toNat) w'
    | _, _ => False
  | _, _ => False
theorem wrap_small {l : Int} (h0 : 0 ≤ l) (h1 : l ≤ 140737488355328) : IntKind.i64.wrap l = l := by
  have h : l % (2 ^ 64 : Int) = l := Int.emod_eq_of_lt h0 (by omega)
  simp only [IntKind.wrap, IntKind.bits, IntKind.signed, h]
  rw [if_neg (by simp; omega)]
theorem mkC_sound {P : Program} {t : TypeId} {l c : Value} {w : World} {K : Value → World → Prop} (h : mkC P t l c w K) :
    ∃ v w', K v w' ∧ Keeps w w' ∧ (Instr.makeSlice t l c).run P w = .ok v w' := by
  unfold mkC at h
  split at h
  · rename_i l c
    replace h := onE_elim h; obtain ⟨e, he, h⟩ := h
    replace h := onE_elim h; obtain ⟨by_, hby, h⟩ := h
    replace h := onE_elim h; obtain ⟨z, hz, h⟩ := h
    split at h
    · rename_i z1 hs hz1
      obtain ⟨⟨h0, h1, h2, h3⟩, h⟩ := h
      unfold slT at he
      split at he
      · rename_i e' hu
        cases he
        unfold bytesT at hby
        split at hby
        · rename_i i hi
          cases hby
          refine ⟨_, _, newC_use h, Keeps.alloc _ _, ?_⟩
          have wl : IntKind.i64.wrap l = l := wrap_small h0 (by omega)
          have wc : IntKind.i64.wrap c = c := wrap_small (by omega) h3
          have g1 : ¬ (c < 0) := by omega
          have g2 : ¬ ((i.bytes : Int) * c > 281474976710656) := by omega
          have g3 : ¬ (l < 0) := by omega
          have g4 : ¬ (l > c) := by omega
          have gz : z.cells = #[z1] := by apply Array.toList_inj.1; simpa using hz1
          have hask : ¬ (c.toNat * i.bytes > 140737488355328) := by
            have e1 : ((c.toNat * i.bytes : Nat) : Int) = (i.bytes : Int) * c := by
              push_cast; rw [Int.toNat_of_nonneg (by omega), Int.mul_comm]
            omega
          have hrow : ∀ n, (Array.range n).map (fun x => (#[z1] : Array Value)[x % (#[z1] : Array Value).size]!) = Array.replicate n z1 := by
            intro n
            apply Array.ext
            · simp
            · intro j hj1 hj2; simp [Nat.mod_one]
          have hti : ∀ w, (typeInfo e).run P w = .ok i w := fun w => by simp [typeInfo, hi]
          simp only [Instr.makeSlice, Sem.run_bind, run_underlying hu, Result.andThen_ok, asInt, asIntOf, Sem.run_pure, hti, wl, wc]
          have hg : ((decide (c < 0) || decide ((i.bytes : Int) * c > 2 ^ 48)) || decide (l < 0) || decide (l > c)) = false := by simp; omega
          simp only [hg, Bool.false_eq_true, if_false]
          have hroom : ∀ w, (askRoom (c.toNat * i.bytes)).run P w = .ok () w := by
            intro w; unfold askRoom roomBytes; rw [if_neg hask]; rfl
          simp only [Sem.run_bind, hroom, Result.andThen_ok, run_sizeOf hs, Nat.mul_one]
          by_cases hc0 : c.toNat = 0
          · have r0 : Array.range 0 = #[] := by apply Array.toList_inj.1; simp [Array.toList_range]
            simp [hc0, run_newRow, r0]
          · simp only [hc0, if_false, Sem.run_bind, run_zero hz, Result.andThen_ok, Sem.run_pure, gz, hrow, run_newRow]
        · cases hby
      · cases he
    · exact h.elim
  · exact h.elim

/-! ### All of them -/
def app (P : Program) (t t2 ty : TypeId) (a : Option Addr) (n c : Nat) (a2 : Option Addr) (m c2 : Nat) (w : World) (k : Option Addr → Nat → World → Prop) : Prop :=
  ∃ a' c' w', (Builtin.append_ #[t, t2] ty #[.slice a n c, .slice a2 m c2]).run P w = .ok (.slice a' (n + m) c') w' ∧ Keeps w w' ∧ k a' c' w'
/-- append(s, make([]T, m)...). -/
def apz (P : Program) (t t2 ty : TypeId) (a : Option Addr) (n c : Nat) (m : Int) (w : World) (k : Option Addr → Nat → World → Prop) : Prop :=
  ∃ a' c' w', (Builtin.append_ #[t, t2] ty #[.slice a n c, .int .i64 m]).run P w = .ok (.slice a' (n + m.toNat) c') w' ∧ Keeps w w' ∧ k a' c' w'
def appC (P : Program) (t t2 ty : TypeId) (s x : Value) (w : World) (K : Value → World → Prop) : Prop :=
  match s, x with
  | .slice a n c, .slice a2 m c2 => app P t t2 ty a n c a2 m c2 w fun a' c' w' => K (.slice a' (n + m) c') w'
  | .slice a n c, .int .i64 m => apz P t t2 ty a n c m w fun a' c' w' => K (.slice a' (n + m.toNat) c') w'
  | s, x => ∃ v w', (Builtin.append_ #[t, t2] ty #[s, x]).run P w = .ok v w' ∧ Keeps w w' ∧ K v w'
/-- A result, in the form of its type's kind. -/
def shpK (P : Program) (ty : TypeId) (K : Value → World → Prop) (v : Value) (w : World) : Prop := shp P 6 ty fun v' => v = v' ∧ K v' w
theorem shpK_elim {P : Program} {ty : TypeId} {K : Value → World → Prop} {v : Value} {w : World} (h : shpK P ty K v w) : K v w := by
  obtain ⟨v', rfl, hK⟩ := shp_elim _ _ _ h
  exact hK
def sp (P : Program) (L : Env) (o : Op) (ty : TypeId) (w : World) (K : Value → World → Prop) : Prop :=
  match o with
  | .alloc t => onE (zeroT P t) fun z => newC w (.cells z.cells t) fun b w' => K (.pointer (some ⟨b, 0, none⟩)) w'
  | .box t x => onE (ev L x) fun v => newC w (.cells v.cells t) fun b w' => K (.pointer (some ⟨b, 0, none⟩)) w'
  | .buildSlice t n ps => onE (partsE L ps.toList) fun vs => bsC P t n vs w K
  | .makeSlice t l c => onE (ev L l) fun l => onE (ev L c) fun c => mkC P t l c w K
  | .store t x v => onE (ev L x) fun p => onE (ev L v) fun v => match p with | .pointer (some ad) => stC P t ad v w fun w' => K undef w' | _ => False
  | .makeMap _ none => newC w (.map #[] 0) fun b w' => K (.map (some b)) w'
  | .lookup t m i ok => onE (ev L m) fun m => onE (ev L i) fun i => shp P 6 ty fun v => (Instr.lookup t m i ok).run P w = .ok v w ∧ K v w
  | .mapUpdate t m i x => onE (ev L m) fun m => onE (ev L i) fun i => onE (ev L x) fun x => ∃ w', (Instr.mapUpdate t m i x).run P w = .ok () w' ∧ Keeps w w' ∧ K undef w'
  | .call c => match c.callee, c.args.toList, c.argTypes.toList with
    | .value f, xs, _ => onE (ev L f) fun f => onE (evs L xs) fun as => match f with
      | .func (.func g) first cap => Fn P g (first.toList ++ as ++ cap.toList) w (shpK P ty K)
      | .func (.yield l) first _ => Yd P l (first.toList ++ as) w (shpK P ty K)
      | .func (.method nm) first _ => match first.toList ++ as with | .iface t v :: rest => Mth P t v nm rest w (shpK P ty K) | _ => False
      | _ => False
    | .invoke r nm, xs, _ => onE (ev L r) fun r => onE (evs L xs) fun as => match r with | .iface t v => Mth P t v nm as w (shpK P ty K) | _ => False
    | .builtin .append, [s, x], [t, t2] => onE (ev L s) fun s => onE (ev L x) fun x => appC P t t2 ty s x w K
    | .builtin .copy, [s, x], [t, t2] => onE (ev L s) fun s => onE (ev L x) fun x => ∃ n w', (Builtin.copy_ #[t, t2] ty #[s, x]).run P w = .ok (.int .i64 n) w' ∧ Keeps w w' ∧ K (.int .i64 n) w'
    | .builtin .clear, [s], [t] => onE (ev L s) fun s => ∃ w', (Builtin.clear_ #[t] ty #[s]).run P w = .ok (.tuple #[]) w' ∧ Keeps w w' ∧ K (.tuple #[]) w'
    | _, _, _ => False
  | _ => False
/-- The fence: none but that of a round. -/
abbrev fc (r : Option Nat) : Fence := { fn := fun _ => True, depth := none, alive := false, round := r }
section
variable {r : Option Nat} {P : Program} {n : Nat} {L : Env} {a : Act} {o : Oper} {w : World} {K : Value → World → Prop} {next : Act → World → Prop} {Q : Exit → Act → World → Prop}
theorem wp_val {v : Value} {w' : World} (h : (execOp a.eval o).run P w = .ok (.value v) w') (hd : ∀ c, o.op ≠ .defer c) (hk : next (a.put o.dst v) w') : o.wpIn (fc r) 0 P a w next Q :=
  ⟨fun _ _ => trivial, by rw [Oper.semAt_eq _ _ _ hd, h]; exact hk⟩
theorem wp_skp {w' : World} (h : (execOp a.eval o).run P w = .ok .skip w') (hd : ∀ c, o.op ≠ .defer c) (hk : next (a.put o.dst undef) w') : o.wpIn (fc r) 0 P a w next Q :=
  ⟨fun _ _ => trivial, by rw [Oper.semAt_eq _ _ _ hd, h]; exact hk⟩
theorem wp_enter {g : FuncId} {as : List Value} (h : (execOp a.eval o).run P w = .ok (.enter g as.toArray) w) (hd : ∀ c, o.op ≠ .defer c) (hF : Fn P g as w K) (hk : ∀ v w', K v w' → Keeps w w' → next (a.put o.dst v) w') : o.wpIn (fc r) 0 P a w next Q := by
  refine ⟨fun _ _ => trivial, ?_⟩
  rw [Oper.semAt_eq _ _ _ hd, h, Oper.uponIn_enter]
  refine ⟨(by intro h; cases h), ?_⟩
  have := callsIn_wide (n := 0 - 1) |>.2 hF.calls
  refine CallsIn.mono (F := fc r) this ?_
  rintro e w' ⟨v, rfl, hK, hkp⟩
  exact hk v w' hK hkp
theorem wp_round {l : Nat} {as : List Value} (h : (execOp a.eval o).run P w = (Instr.yield l as.toArray).run P w) (hd : ∀ c, o.op ≠ .defer c) (hF : Yd P l as w K) (hk : ∀ v w', K v w' → Keeps w w' → next (a.put o.dst v) w') : o.wpIn (fc r) 0 P a w next Q := by
  obtain ⟨fn, tm, asn, bd, h1, h2⟩ := hF
  refine ⟨fun _ _ => trivial, ?_⟩
  rw [Oper.semAt_eq _ _ _ hd, h, h1, Oper.uponIn_round]
  refine ⟨(by intro h; cases h), ?_⟩
  refine RoundIn.mono (F := fc r) h2 ?_
  rintro e w' ⟨v, rfl, hK, hkp⟩
  exact hk v w' hK hkp
theorem run_skip {s : Sem Unit} {w' : World} (h : s.run P w = .ok () w') : ((do s; pure .skip : Sem Next)).run P w = .ok .skip w' := by simp [h]
theorem run_valw {s : Sem Value} {v : Value} {w' : World} (h : s.run P w = .ok v w') : ((do pure (.value (← s)) : Sem Next)).run P w = .ok (.value v) w' := by simp [h]
theorem Mth.enter {t : TypeId} {v : Value} {nm : String} {as : List Value} (h : Mth P t v nm as w K) : ∃ g r, (callMethod (.iface t v) nm as.toArray).run P w = .ok (.enter g (r :: as).toArray) w ∧ Fn P g (r :: as) w K := by
  obtain ⟨g, r, hm, hF⟩ := h
  refine ⟨g, r, ?_, hF⟩
  have he := hF.enters (#[r] ++ as.toArray) w
  simp only [callMethod, Sem.run_bind, program]
  rw [show (Sem.program .pure : Sem Program).run P w = .ok P w from rfl]
  simp only [Result.andThen_ok, hm, he]
  simp
theorem sp_sound (hn : Kn n a L) (h : sp P L o.op o.type w K) (hk : ∀ v w', K v w' → Keeps w w' → next (a.put o.dst v) w') : o.wpIn (fc r) 0 P a w next Q := by
  obtain ⟨dst, op, ty, pos, aft, gd⟩ := o
  simp only at h hk
  unfold sp at h
  split at h
  · replace h := onE_elim h; obtain ⟨z, hz, h⟩ := h
    refine wp_val (run_valw ?_) (by intro c hc; cases hc) (hk _ _ (newC_use h) (Keeps.alloc _ _))
    simp [Instr.alloc, run_zero hz, newVar, run_newRow]
  · replace h := onE_elim h; obtain ⟨v, hv, h⟩ := h
    refine wp_val (run_valw ?_) (by intro c hc; cases hc) (hk _ _ (newC_use h) (Keeps.alloc _ _))
    simp [Instr.box, hn.ev hv, newVar, run_newRow]
  · rename_i t m ps
    replace h := onE_elim h; obtain ⟨vs, hv, h⟩ := h
    obtain ⟨v, w', hK, hkp, hr⟩ := bsC_sound h
    have e := hn.partsE hv
    have e' : ps.map (fun p => (p.1, a.eval p.2)) = vs.toArray := by apply Array.toList_inj.1; rw [Array.toList_map]; exact e
    rw [← e'] at hr
    exact wp_val (run_valw hr) (by intro c hc; cases hc) (hk _ _ hK hkp)
  · replace h := onE_elim h; obtain ⟨l, hl, h⟩ := h
    replace h := onE_elim h; obtain ⟨c, hc, h⟩ := h
    obtain ⟨v, w', hK, hkp, hr⟩ := mkC_sound h
    rw [← hn.ev hl, ← hn.ev hc] at hr
    exact wp_val (run_valw hr) (by intro c hc; cases hc) (hk _ _ hK hkp)
  · replace h := onE_elim h; obtain ⟨p, hp, h⟩ := h
    replace h := onE_elim h; obtain ⟨v, hv, h⟩ := h
    split at h
    · obtain ⟨w', hK, hkp, hr⟩ := stC_sound h
      refine wp_skp (run_skip ?_) (by intro c hc; cases hc) (hk _ _ hK hkp)
      simp only [Instr.storeAt, hn.ev hp, hn.ev hv, Instr.sureAddr, Sem.run_bind, Sem.run_pure, Result.andThen_ok]
      exact hr
    · exact h.elim
  · refine wp_val (run_valw ?_) (by intro c hc; cases hc) (hk _ _ (newC_use h) (Keeps.alloc _ _))
    simp [Instr.makeMap, run_newObj]
  · replace h := onE_elim h; obtain ⟨m, hm, h⟩ := h
    replace h := onE_elim h; obtain ⟨i, hi, h⟩ := h
    obtain ⟨v, hr, hK⟩ := shp_elim _ _ _ h
    have hkp := Keeps.refl w
    rw [← hn.ev hm, ← hn.ev hi] at hr
    exact wp_val (run_valw hr) (by intro c hc; cases hc) (hk _ _ hK hkp)
  · replace h := onE_elim h; obtain ⟨m, hm, h⟩ := h
    replace h := onE_elim h; obtain ⟨i, hi, h⟩ := h
    replace h := onE_elim h; obtain ⟨x, hx, w', hr, hkp, hK⟩ := h
    rw [← hn.ev hm, ← hn.ev hi, ← hn.ev hx] at hr
    exact wp_skp (run_skip hr) (by intro c hc; cases hc) (hk _ _ hK hkp)
  · rename_i c
    obtain ⟨cal, as, ts⟩ := c
    obtain ⟨as⟩ := as
    obtain ⟨ts⟩ := ts
    simp only at h
    split at h
    · replace h := onE_elim h; obtain ⟨f, hf, h⟩ := h
      replace h := onE_elim h; obtain ⟨vs, hv, h⟩ := h
      have e := hn.evs hv
      split at h
      · rename_i g first cap
        refine wp_enter (as := first.toList ++ vs ++ cap.toList) ?_ (by intro c hc; cases hc) h (fun v w' hv => hk v w' (shpK_elim hv))
        have he := h.enters (first.toList ++ vs ++ cap.toList).toArray w
        simp only [execOp, resolve, Sem.run_bind, hn.ev hf, Deferred.ofValue, Sem.run_pure, Result.andThen_ok, invoke, List.map_toArray, e]
        rw [show first ++ vs.toArray ++ cap = (first.toList ++ vs ++ cap.toList).toArray by apply Array.toList_inj.1; simp]
        exact he
      · rename_i l first cap
        refine wp_round (as := first.toList ++ vs) ?_ (by intro c hc; cases hc) h (fun v w' hv => hk v w' (shpK_elim hv))
        simp only [execOp, resolve, Sem.run_bind, hn.ev hf, Deferred.ofValue, Sem.run_pure, Result.andThen_ok, invoke, List.map_toArray, e]
        rw [show first ++ vs.toArray = (first.toList ++ vs).toArray by apply Array.toList_inj.1; simp]
      · rename_i nm first cap
        split at h
        · rename_i t v rest hx
          obtain ⟨g, r, hr, hF⟩ := h.enter
          refine wp_enter (as := r :: rest) ?_ (by intro c hc; cases hc) hF (fun v w' hv => hk v w' (shpK_elim hv))
          have e2 : first ++ vs.toArray = (.iface t v :: rest : List Value).toArray := by apply Array.toList_inj.1; simpa using hx
          simp only [execOp, resolve, Sem.run_bind, hn.ev hf, Deferred.ofValue, Sem.run_pure, Result.andThen_ok, invoke, List.map_toArray, e, e2]
          simpa using hr
        · exact h.elim
      · exact h.elim
    · replace h := onE_elim h; obtain ⟨f, hf, h⟩ := h
      replace h := onE_elim h; obtain ⟨vs, hv, h⟩ := h
      have e := hn.evs hv
      split at h
      · obtain ⟨g, r, hr, hF⟩ := h.enter
        refine wp_enter ?_ (by intro c hc; cases hc) hF (fun v w' hv => hk v w' (shpK_elim hv))
        simp only [execOp, resolve, Sem.run_bind, hn.ev hf, Sem.run_pure, Result.andThen_ok, invoke, List.map_toArray, e]
        simpa using hr
      · exact h.elim
    · replace h := onE_elim h; obtain ⟨s, hs, h⟩ := h
      replace h := onE_elim h; obtain ⟨x, hx, h⟩ := h
      unfold appC at h
      split at h
      · obtain ⟨a', c', w', hr, hkp, hK⟩ := h
        rw [← hn.ev hs, ← hn.ev hx] at hr
        exact wp_val (by simp [execOp, resolve, invoke, builtin, hr]) (by intro c hc; cases hc) (hk _ _ hK hkp)
      · obtain ⟨a', c', w', hr, hkp, hK⟩ := h
        rw [← hn.ev hs, ← hn.ev hx] at hr
        exact wp_val (by simp [execOp, resolve, invoke, builtin, hr]) (by intro c hc; cases hc) (hk _ _ hK hkp)
      · obtain ⟨v, w', hr, hkp, hK⟩ := h
        rw [← hn.ev hs, ← hn.ev hx] at hr
        exact wp_val (by simp [execOp, resolve, invoke, builtin, hr]) (by intro c hc; cases hc) (hk _ _ hK hkp)
    · replace h := onE_elim h; obtain ⟨s, hs, h⟩ := h
      replace h := onE_elim h; obtain ⟨x, hx, m, w', hr, hkp, hK⟩ := h
      rw [← hn.ev hs, ← hn.ev hx] at hr
      exact wp_val (by simp [execOp, resolve, invoke, builtin, hr]) (by intro c hc; cases hc) (hk _ _ hK hkp)
    · replace h := onE_elim h; obtain ⟨s, hs, w', hr, hkp, hK⟩ := h
      rw [← hn.ev hs] at hr
      exact wp_val (by simp [execOp, resolve, invoke, builtin, hr]) (by intro c hc; cases hc) (hk _ _ hK hkp)
    · exact h.elim
  · exact h.elim
end
end Go.Proofs.Ythekpkamedjloaa
