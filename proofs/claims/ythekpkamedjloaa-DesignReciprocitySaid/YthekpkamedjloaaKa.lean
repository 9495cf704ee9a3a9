/- Conditions for single operations: a function on partial knowledge of the slots, with soundness. -/
import Derived.WalkKit
import Derived.StillTail
import Derived.OrdersHeld
import Derived.Deep.Draws
import Derived.OrdersIn
import Derived.TacticsIn
import Derived.RangeFuncNested
import Derived.RangeFuncLeaves
import Derived.KernelRfl
namespace Go.Proofs.Ythekpkamedjloaa
open Go.RowKit

/-- The first cell of a block. -/
@[reducible] def bl (b : Nat) : Addr := ⟨b, 0, none⟩
/-! ### Worlds -/
abbrev Ext (w w' : World) : Prop := Below w.heap.size w w'
theorem Ext.refl (w : World) : Ext w w := Below.refl _ _
theorem Ext.trans {a b c : World} (h : Ext a b) (k : Ext b c) : Ext a c := Below.trans h (k.mono h.size)
theorem Ext.cell {w w' : World} (h : Ext w w') {p : Addr} {v : Value} (hc : w.cell? p = some v) : w'.cell? p = some v :=
  (Below.cell h (World.block_lt_of_cell? w p hc)).trans hc
theorem Ext.drew (w : World) : Ext w w.drew := Below.drew (Below.refl _ w)
theorem Ext.alloc (w : World) (o : Obj) : Ext w (w.alloc o) := Below.alloc (Below.refl _ _) (Nat.le_refl _) o

/-! ### Knowledge of slots -/
abbrev Env := List (Nat × Value)
def look : Env → Nat → Option Value
  | [], _ => none
  | p :: L, t => match Nat.beq p.1 t with | true => some p.2 | false => look L t
structure Kn (n : Nat) (a : Act) (L : Env) : Prop where
  size : a.tmps.size = n
  at_ : ∀ t v, look L t = some v → a.tmps[t]? = some v
def ev (L : Env) : Operand → Option Value
  | .tmp t => look L t
  | .const v => some v
  | .global g => some (.pointer (some ⟨g, 0, none⟩))
  | .func f => some (.func (.func f) #[] #[])
theorem Kn.ev {n : Nat} {a : Act} {L : Env} (h : Kn n a L) {x : Operand} {v : Value} (hx : ev L x = some v) : a.eval x = v := by
  cases x with
  | tmp t =>
    have := h.at_ t v hx
    simp [Act.eval, Array.getD_eq_getD_getElem?, this]
  | const u => simpa [Ythekpkamedjloaa.ev, Act.eval] using hx
  | global g => simpa [Ythekpkamedjloaa.ev, Act.eval] using hx
  | func f => simpa [Ythekpkamedjloaa.ev, Act.eval] using hx
def putE (dst : Option Tmp) (v : Value) (L : Env) : Env := match dst with | some d => (d, v) :: L | none => L
def dstOk (n : Nat) (dst : Option Tmp) : Bool := match dst with | some d => Nat.blt d n | none => true
theorem look_cons (i : Nat) (u : Value) (L : Env) (t : Nat) : look ((i, u) :: L) t = if i = t then some u else look L t := by
  show (match Nat.beq i t with | true => some u | false => look L t) = _
  by_cases h : i = t
  · subst h; rw [if_pos rfl, Nat.beq_refl]
  · rw [if_neg h]
    have : Nat.beq i t = false := by
      cases hb : Nat.beq i t with
      | false => rfl
      | true => exact absurd (Nat.eq_of_beq_eq_true hb) h
    rw [this]
theorem Kn.put {n : Nat} {a : Act} {L : Env} (h : Kn n a L) {dst : Option Tmp} (hd : dstOk n dst = true) (v : Value) : Kn n (a.put dst v) (putE dst v L) := by
  cases dst with
  | none => exact ⟨h.size, h.at_⟩
  | some d =>
    have hd' : d < n := by simpa [dstOk] using hd
    refine ⟨by simp [Act.put, h.size], fun t u ht => ?_⟩
    simp only [putE, look_cons] at ht
    simp only [Act.put]
    by_cases e : d = t
    · subst e
      rw [if_pos rfl] at ht
      cases ht
      rw [Array.getElem?_setIfInBounds_self_of_lt (by rw [h.size]; exact hd')]
    · rw [if_neg e] at ht
      rw [Array.getElem?_setIfInBounds_ne e]
      exact h.at_ t u ht
theorem Kn.weak {n : Nat} {a : Act} {L L' : Env} (h : Kn n a L) (hs : ∀ t v, look L' t = some v → look L t = some v) : Kn n a L' :=
  ⟨h.size, fun t v hv => h.at_ t v (hs t v hv)⟩

def onE {α : Type} (x : Option α) (k : α → Prop) : Prop := match x with | some v => k v | none => False
theorem onE_elim {α : Type} {x : Option α} {k : α → Prop} (h : onE x k) : ∃ v, x = some v ∧ k v := by
  cases x with
  | none => exact h.elim
  | some v => exact ⟨v, rfl, h⟩
def evs (L : Env) : List Operand → Option (List Value)
  | [] => some []
  | x :: xs => match ev L x with | some v => (match evs L xs with | some vs => some (v :: vs) | none => none) | none => none
theorem Kn.evs {n : Nat} {a : Act} {L : Env} (h : Kn n a L) : ∀ {xs : List Operand} {vs : List Value}, evs L xs = some vs → xs.map a.eval = vs := by
  intro xs
  induction xs with
  | nil => intro vs hv; simp [Ythekpkamedjloaa.evs] at hv; simp [hv]
  | cons x xs ih =>
    intro vs hv
    unfold Ythekpkamedjloaa.evs at hv
    split at hv
    · rename_i v h1
      split at hv
      · rename_i us h2
        cases hv
        simp [h.ev h1, ih h2]
      · cases hv
    · cases hv

/-! ### Types -/
def sizeT (P : Program) (t : TypeId) : Option Nat := match P.info? t with | some i => some i.size | none => none
def aggT (P : Program) (t : TypeId) : Option Bool :=
  match P.underlying t with | some (.struct _) => some true | some (.array _ _) => some true | some _ => some false | none => none
theorem run_isAgg {P : Program} {t : TypeId} {b : Bool} (h : aggT P t = some b) (w : World) : (isAgg t).run P w = .ok b w := by
  unfold aggT at h
  unfold isAgg
  cases hu : P.underlying t with
  | none => simp [hu] at h
  | some d =>
    have := run_underlying hu w
    simp only [hu] at h
    simp only [Sem.run_bind, this, Result.andThen_ok]
    cases d <;> simp_all
theorem run_sizeOf {P : Program} {t : TypeId} {n : Nat} (h : sizeT P t = some n) (w : World) : (sizeOf t).run P w = .ok n w := by
  unfold sizeT at h
  cases hi : P.info? t with
  | none => simp [hi] at h
  | some i =>
    simp only [hi, Option.some.injEq] at h
    subst h
    simp [sizeOf, typeInfo, hi]
/-- A value of a type, in the form of its kind. -/
def shpL (s : TypeId → (Value → Prop) → Prop) : List TypeId → List Value → (List Value → Prop) → Prop
  | [], acc, φ => φ acc
  | t :: ts, acc, φ => s t fun v => shpL s ts (acc ++ v.cells.toList) φ
def shpT (s : TypeId → (Value → Prop) → Prop) : List TypeId → List Value → (List Value → Prop) → Prop
  | [], acc, φ => φ acc
  | t :: ts, acc, φ => s t fun v => shpT s ts (acc ++ [v]) φ
def shp (P : Program) : Nat → TypeId → (Value → Prop) → Prop
  | 0, _, φ => ∃ v, φ v
  | n + 1, t, φ => match P.underlying t with
    | some (.int k) => ∃ x, φ (.int k x)
    | some .bool => ∃ b, φ (.bool b)
    | some .string => ∃ s, φ (.string s)
    | some (.slice _) => ∃ a m c, φ (.slice a m c)
    | some (.pointer _) => ∃ p, φ (.pointer p)
    | some (.func _ _ _) => ∃ g f c, φ (.func (.func g) f c)
    | some (.interface _) => ∃ u v, φ (.iface u v)
    | some (.struct fs) => shpL (shp P n) (fs.toList.map Field.type) [] fun cs => φ (.agg cs.toArray)
    | some (.tuple ts) => shpT (shp P n) ts.toList [] fun vs => φ (.tuple vs.toArray)
    | some (.array m e) => (match Nat.ble m 32 with
      | true => shpL (shp P n) (List.replicate m e) [] fun cs => φ (.agg cs.toArray)
      | false => ∃ v, φ v)
    | _ => ∃ v, φ v
theorem shpL_elim {s : TypeId → (Value → Prop) → Prop} (hs : ∀ t φ, s t φ → ∃ v, φ v) : ∀ (ts : List TypeId) (acc : List Value) (φ : List Value → Prop), shpL s ts acc φ → ∃ vs, φ vs
  | [], acc, φ, h => ⟨acc, h⟩
  | t :: ts, acc, φ, h => by
    obtain ⟨v, h⟩ := hs _ _ h
    exact shpL_elim hs ts _ φ h
theorem shpT_elim {s : TypeId → (Value → Prop) → Prop} (hs : ∀ t φ, s t φ → ∃ v, φ v) : ∀ (ts : List TypeId) (acc : List Value) (φ : List Value → Prop), shpT s ts acc φ → ∃ vs, φ vs
  | [], acc, φ, h => ⟨acc, h⟩
  | t :: ts, acc, φ, h => by
    obtain ⟨v, h⟩ := hs _ _ h
    exact shpT_elim hs ts _ φ h
theorem shp_elim {P : Program} : ∀ (n : Nat) (t : TypeId) (φ : Value → Prop), shp P n t φ → ∃ v, φ v
  | 0, t, φ, h => h
  | n + 1, t, φ, h => by
    unfold shp at h
    split at h
    · obtain ⟨x, h⟩ := h; exact ⟨_, h⟩
    · obtain ⟨x, h⟩ := h; exact ⟨_, h⟩
    · obtain ⟨x, h⟩ := h; exact ⟨_, h⟩
    · obtain ⟨x, y, z, h⟩ := h; exact ⟨_, h⟩
    · obtain ⟨x, h⟩ := h; exact ⟨_, h⟩
    · obtain ⟨x, y, z, h⟩ := h; exact ⟨_, h⟩
    · obtain ⟨x, y, h⟩ := h; exact ⟨_, h⟩
    · obtain ⟨x, h⟩ := shpL_elim (fun t φ h => shp_elim n t φ h) _ _ _ h; exact ⟨_, h⟩
    · obtain ⟨x, h⟩ := shpT_elim (fun t φ h => shp_elim n t φ h) _ _ _ h; exact ⟨_, h⟩
    · split at h
      · obtain ⟨x, h⟩ := shpL_elim (fun t φ h => shp_elim n t φ h) _ _ _ h; exact ⟨_, h⟩
      · exact h
    · exact h
end Go.Proofs.Ythekpkamedjloaa
