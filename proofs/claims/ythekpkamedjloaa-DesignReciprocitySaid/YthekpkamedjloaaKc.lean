/- The other operations that leave the world alone; 'fl' and its soundness. -/
import Derived.Test.YthekpkamedjloaaKb
namespace Go.Proofs.Ythekpkamedjloaa
open Go.RowKit

def unC (op : UnOp) (v : Value) (k : Value → Prop) : Prop :=
  match op, v with
  | .not, .bool b => k (.bool (!b))
  | .neg, .int kd n => ∃ r, kd.wrap (0 - n) = r ∧ k (.int kd r)
  | .xor, .int kd n => ∃ r, bitsR .xor kd (if kd.signed then -1 else kd.max) n = r ∧ k (.int kd r)
  | _, _ => False
theorem unC_sound {P : Program} {op : UnOp} {v : Value} {k : Value → Prop} (h : unC op v k) : ∃ u, k u ∧ ∀ w, (Op.unary op v).run P w = .ok u w := by
  unfold unC at h
  split at h
  · exact ⟨_, h, fun w => rfl⟩
  · obtain ⟨r, hr, hk⟩ := h
    exact ⟨_, hk, fun w => by simp [Op.unary, Op.intArith, ← hr]⟩
  · obtain ⟨r, hr, hk⟩ := h
    exact ⟨_, hk, fun w => by simp [Op.unary, Op.intBits, ← hr, bitsR]⟩
  · exact h.elim

def cvC (P : Program) (s d : TypeId) (v : Value) (k : Value → Prop) : Prop :=
  match P.underlying s, intT P d, v with
  | some _, some kd, .int _ n => ∃ r, kd.wrap n = r ∧ k (.int kd r)
  | _, _, _ => False
theorem cvC_sound {P : Program} {s d : TypeId} {v : Value} {k : Value → Prop} (h : cvC P s d v k) : ∃ u, k u ∧ ∀ w, (convert s d v).run P w = .ok u w := by
  unfold cvC at h
  split at h
  · rename_i ds kd _ n hs hd
    obtain ⟨r, hr, hk⟩ := h
    unfold intT at hd
    split at hd
    · rename_i kd' hu
      cases hd
      refine ⟨_, hk, fun w => ?_⟩
      simp [convert, run_underlying hs, run_underlying hu, Conv.intToInt, ← hr]
    · cases hd
  · exact h.elim

def fieldT (P : Program) (s : TypeId) (f : Nat) : Option Field := match P.underlying s with | some (.struct fs) => fs[f]? | _ => none
def faC (P : Program) (s : TypeId) (v : Value) (f : Nat) (k : Value → Prop) : Prop :=
  match v with
  | .pointer (some ad) => onE (fieldT P s f) fun fd => onE (sizeT P fd.type) fun n => match n with | 0 => False | _ + 1 => k (.pointer (some (ad.add fd.offset)))
  | _ => False
theorem faC_sound {P : Program} {s : TypeId} {v : Value} {f : Nat} {k : Value → Prop} (h : faC P s v f k) : ∃ u, k u ∧ ∀ w, (Instr.fieldAt s v f).run P w = .ok u w := by
  unfold faC at h
  split at h
  · rename_i ad
    obtain ⟨fd, hf, h⟩ := onE_elim h
    obtain ⟨n, hn, h⟩ := onE_elim h
    unfold fieldT at hf
    split at hf
    · rename_i fs hu
      split at h
      · exact h.elim
      · rename_i m
        refine ⟨_, h, fun w => ?_⟩
        simp [Instr.fieldAt, run_underlying hu, hf, Instr.sureAddr, fieldPlace, run_sizeOf hn]
    · cases hf
  · exact h.elim

def arrT (P : Program) (t : TypeId) : Option (Nat × TypeId) := match P.underlying t with | some (.array n e) => some (n, e) | _ => none
def slT (P : Program) (t : TypeId) : Option TypeId := match P.underlying t with | some (.slice e) => some e | _ => none
def iaC (P : Program) (t : TypeId) (v iv : Value) (k : Value → Prop) : Prop :=
  match v, iv with
  | .slice a len _, .int _ i => onE (slT P t) fun e => onE (sizeT P e) fun n => 0 ≤ i ∧ i < (len : Int) ∧ ∃ ad, a = some ad ∧ k (.pointer (some (ad.add (i.toNat * n))))
  | .pointer (some ad), .int _ i => onE (arrT P t) fun le => onE (sizeT P le.2) fun n => 0 ≤ i ∧ i < (le.1 : Int) ∧ k (.pointer (some (ad.add (i.toNat * n))))
  | _, _ => False
theorem iaC_sound {P : Program} {t : TypeId} {v iv : Value} {k : Value → Prop} (h : iaC P t v iv k) : ∃ u, k u ∧ ∀ w, (Instr.indexAt t v iv).run P w = .ok u w := by
  unfold iaC at h
  split at h
  · rename_i a len c kd i
    obtain ⟨e, he, h⟩ := onE_elim h
    obtain ⟨n, hn, h0, h1, ad, rfl, hk⟩ := onE_elim h
    unfold slT at he
    split at he
    · rename_i e' hu
      cases he
      refine ⟨_, hk, fun w => ?_⟩
      have h2 : 0 ≤ i ∧ i < (len : Int) := ⟨h0, h1⟩
      simp [Instr.indexAt, asIntOf, run_underlying hu, h2, run_sizeOf hn]
    · cases he
  · rename_i ad kd i
    obtain ⟨le, he, h⟩ := onE_elim h
    obtain ⟨n, hn, h0, h1, hk⟩ := onE_elim h
    unfold arrT at he
    split at he
    · rename_i m e' hu
      cases he
      refine ⟨_, hk, fun w => ?_⟩
      have h2 : 0 ≤ i ∧ i < (m : Int) := ⟨h0, h1⟩
      simp [Instr.indexAt, asIntOf, run_underlying hu, Instr.sureAddr, h2, run_sizeOf hn]
    · cases he
  · exact h.elim

/-- A value that is told by a run: for rare forms. -/
def runC (P : Program) (s : Sem Value) (ty : TypeId) (w : World) (k : Value → Prop) : Prop := shp P 6 ty fun v => (∀ w', Ext w w' → s.run P w' = .ok v w') ∧ k v
theorem runC_sound {P : Program} {s : Sem Value} {ty : TypeId} {w : World} {k : Value → Prop} (h : runC P s ty w k) : ∃ v, k v ∧ ∀ w', Ext w w' → s.run P w' = .ok v w' := by
  obtain ⟨v, h1, h2⟩ := shp_elim _ _ _ h
  exact ⟨v, h2, h1⟩

def partL (P : Program) (t : TypeId) (cs : List Value) (off : Nat) : Option Value :=
  match aggT P t with
  | some true => (match sizeT P t with | some n => some (.agg ((cs.drop off).take n).toArray) | none => none)
  | some false => cs[off]?
  | none => none
theorem run_part {P : Program} {t : TypeId} {cs : List Value} {off : Nat} {v : Value} (h : partL P t cs off = some v) (w : World) : (part t cs.toArray off).run P w = .ok v w := by
  unfold partL at h
  split at h
  · rename_i ha
    split at h
    · rename_i n hn
      cases h
      simp [part, run_isAgg ha, run_sizeOf hn, List.take_drop]
    · cases h
  · rename_i ha
    simp [part, run_isAgg ha, h]
  · cases h
def fdC (P : Program) (t : TypeId) (v : Value) (f : Nat) (k : Value → Prop) : Prop :=
  match v with
  | .agg cs => onE (fieldT P t f) fun fd => onE (partL P fd.type cs.toList fd.offset) k
  | _ => False
theorem fdC_sound {P : Program} {t : TypeId} {v : Value} {f : Nat} {k : Value → Prop} (h : fdC P t v f k) : ∃ u, k u ∧ ∀ w, (Instr.field t v f).run P w = .ok u w := by
  unfold fdC at h
  split at h
  · rename_i cs
    obtain ⟨fd, hf, h⟩ := onE_elim h
    obtain ⟨u, hu, hk⟩ := onE_elim h
    unfold fieldT at hf
    split at hf
    · rename_i fs hus
      refine ⟨u, hk, fun w => ?_⟩
      have := run_part hu w
      simp only [Array.toArray_toList] at this
      simp [Instr.field, run_underlying hus, hf, asAgg, this]
    · cases hf
  · exact h.elim

def optE (L : Env) (x : Option Operand) : Option (Option Value) := match x with | none => some none | some o => (match ev L o with | some v => some (some v) | none => none)
theorem Kn.optE {n : Nat} {a : Act} {L : Env} (h : Kn n a L) {x : Option Operand} {v : Option Value} (hx : optE L x = some v) : x.map a.eval = v := by
  unfold Ythekpkamedjloaa.optE at hx
  split at hx
  · cases hx; rfl
  · split at hx
    · rename_i u hu
      cases hx
      simp [h.ev hu]
    · cases hx
/-- A bound of a slice expression. -/
def bnd (v : Option Value) (dflt : Int) (k : Int → Prop) : Prop := match v with | none => k dflt | some (.int _ i) => k i | _ => False
def slC (P : Program) (t : TypeId) (v : Value) (lo hi mx : Option Value) (k : Value → Prop) : Prop :=
  match v with
  | .slice a len cap => onE (slT P t) fun e => onE (sizeT P e) fun n => bnd mx cap fun m => bnd hi len fun h => bnd lo 0 fun l =>
      (0 ≤ l ∧ l ≤ h ∧ h ≤ m ∧ m ≤ (cap : Int) ∧ (mx.isSome → hi.isSome)) ∧ k (.slice (if m.toNat = l.toNat then a else a.map (·.add (l.toNat * n))) (h.toNat - l.toNat) (m.toNat - l.toNat))
  | _ => False
theorem slC_sound {P : Program} {t : TypeId} {v : Value} {lo hi mx : Option Value} {k : Value → Prop} (h : slC P t v lo hi mx k) : ∃ u, k u ∧ ∀ w, (Instr.sliceAt t v lo hi mx).run P w = .ok u w := by
  unfold slC at h
  split at h
  · rename_i a len cap
    obtain ⟨e, he, h⟩ := onE_elim h
    obtain ⟨n, hn, h⟩ := onE_elim h
    unfold slT at he
    split at he
    · rename_i e' hu
      cases he
      have hb : ∀ (i : Int) (kd : IntKind) (y : Nat) (c : BoundsCode) (w : World), 0 ≤ i → i ≤ (y : Int) → (Instr.sliceBound (.int kd i) y c).run P w = .ok i.toNat w := by
        intro i kd y c w h0 h1
        simp [Instr.sliceBound, asIntOf, h0, h1]
      rcases mx with _ | mx <;> rcases hi with _ | hi <;> rcases lo with _ | lo <;>
        first
          | (cases mx <;> cases hi <;> cases lo <;> first | exact h.elim | skip)
          | (cases mx <;> cases hi <;> first | exact h.elim | skip)
          | (cases hi <;> cases lo <;> first | exact h.elim | skip)
          | (cases mx <;> cases lo <;> first | exact h.elim | skip)
          | (cases lo <;> first | exact h.elim | skip)
          | (cases hi <;> first | exact h.elim | skip)
          | (cases mx <;> first | exact h.elim | skip)
          | skip
      all_goals
        simp only [bnd] at h
        obtain ⟨⟨h0, h1, h2, h3, h4⟩, hk⟩ := h
        first
          | (exfalso; revert h4; simp; done)
          | (
            refine ⟨_, hk, fun w => ?_⟩
            simp only [Instr.sliceAt, Sem.run_bind, run_underlying hu, Result.andThen_ok, Instr.slice, Instr.sliceBounds, Option.isSome, Sem.run_pure]
            first
              | (rw [hb _ _ _ _ _ (by omega) (by omega)]; simp only [Result.andThen_ok]; rw [hb _ _ _ _ _ (by omega) (by omega)]; simp only [Result.andThen_ok]; rw [hb _ _ _ _ _ (by omega) (by omega)]; simp only [Result.andThen_ok, run_sizeOf hn, Sem.run_pure, Int.toNat_natCast, Int.toNat_zero]; done)
              | (rw [hb _ _ _ _ _ (by omega) (by omega)]; simp only [Result.andThen_ok]; rw [hb _ _ _ _ _ (by omega) (by omega)]; simp only [Result.andThen_ok, run_sizeOf hn, Sem.run_pure, Int.toNat_natCast, Int.toNat_zero]; done)
              | (rw [hb _ _ _ _ _ (by omega) (by omega)]; simp only [Result.andThen_ok, run_sizeOf hn, Sem.run_pure, Int.toNat_natCast, Int.toNat_zero]; done)
              | (simp only [run_sizeOf hn, Result.andThen_ok, Sem.run_pure, Int.toNat_natCast, Int.toNat_zero]; done)
            )
    · cases he
  · exact h.elim

def exC (v : Value) (i : Nat) (k : Value → Prop) : Prop := match v with | .tuple vs => onE (vs.toList[i]?) k | _ => False
theorem exC_sound {P : Program} {v : Value} {i : Nat} {k : Value → Prop} (h : exC v i k) : ∃ u, k u ∧ ∀ w, (Instr.extract v i).run P w = .ok u w := by
  unfold exC at h
  split at h
  · obtain ⟨u, hu, hk⟩ := onE_elim h
    refine ⟨u, hk, fun w => ?_⟩
    simp only [Array.getElem?_toList] at hu
    simp [Instr.extract, hu]
  · exact h.elim
def ncC (v : Value) (k : Value → Prop) : Prop :=
  match v with
  | .pointer p => onE p fun a => k (.pointer (some a))
  | .func (.func f) x y => k (.func (.func f) x y)
  | .iface t u => k (.iface t u)
  | _ => False
def miC (P : Program) (t : TypeId) (v : Value) (k : Value → Prop) : Prop := match P.underlying t with | some (.interface _) => False | some _ => k (.iface t v) | none => False
theorem miC_sound {P : Program} {t : TypeId} {v : Value} {k : Value → Prop} (h : miC P t v k) : ∃ u, k u ∧ ∀ w, (Instr.makeInterface t v).run P w = .ok u w := by
  unfold miC at h
  split at h
  · exact h.elim
  · rename_i d hn hd
    refine ⟨_, h, fun w => ?_⟩
    simp only [Instr.makeInterface, Sem.run_bind, run_underlying hd, Result.andThen_ok]
    cases d <;> first | rfl | exact absurd rfl (hn _)
  · exact h.elim
def lnC (P : Program) (t : TypeId) (v : Value) (k : Value → Prop) : Prop :=
  match v with
  | .slice _ n _ => match sliT P t with | true => k (.int .i64 n) | false => False
  | _ => onE (arrT P t) fun le => k (.int .i64 (le.1 : Int))
theorem lnC_sound {P : Program} {t ty : TypeId} {v : Value} {k : Value → Prop} (h : lnC P t v k) : ∃ u, k u ∧ ∀ w, (Builtin.len_ #[t] ty #[v]).run P w = .ok u w := by
  unfold lnC at h
  split at h
  · split at h
    · rename_i a n c hs
      unfold sliT at hs
      split at hs
      · rename_i e hu
        exact ⟨_, h, fun w => by simp [Builtin.len_, run_underlying hu, goInt]⟩
      · cases hs
    · exact h.elim
  · obtain ⟨le, he, hk⟩ := onE_elim h
    unfold arrT at he
    split at he
    · rename_i n e hu
      cases he
      exact ⟨_, hk, fun w => by simp [Builtin.len_, run_underlying hu, goInt]⟩
    · cases he
def mmC (mx : Bool) (vs : List Value) (k : Value → Prop) : Prop :=
  match vs with
  | [.int ka x, .int _ y] => match mx with | true => k (.int ka (if y > x then y else x)) | false => k (.int ka (if y < x then y else x))
  | [.int ka x, .int _ y, .int _ z] => match mx with
    | true => k (.int ka (if z > (if y > x then y else x) then z else (if y > x then y else x)))
    | false => k (.int ka (if z < (if y < x then y else x) then z else (if y < x then y else x)))
  | _ => False
theorem mmC_sound {P : Program} {ts : Array TypeId} {ty : TypeId} {mx : Bool} {vs : List Value} {k : Value → Prop} (h : mmC mx vs k) :
    ∃ u, k u ∧ ∀ w, ((if mx then Builtin.max_ ts ty vs.toArray else Builtin.min_ ts ty vs.toArray) : Sem Value).run P w = .ok u w := by
  unfold mmC at h
  split at h
  · split at h
    · exact ⟨_, h, fun w => by simp [Builtin.max_, Builtin.max2]⟩
    · exact ⟨_, h, fun w => by simp [Builtin.min_, Builtin.min2]⟩
  · split at h
    · exact ⟨_, h, fun w => by simp [Builtin.max_, Builtin.max2]⟩
    · exact ⟨_, h, fun w => by simp [Builtin.min_, Builtin.min2]⟩
  · exact h.elim
end Go.Proofs.Ythekpkamedjloaa
