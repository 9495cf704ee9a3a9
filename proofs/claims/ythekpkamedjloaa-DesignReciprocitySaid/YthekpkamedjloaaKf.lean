/- Regions that draw their order: every order, out of one canonical order. -/
import Derived.Test.YthekpkamedjloaaKe
namespace Go.Proofs.Ythekpkamedjloaa
open Go.RowKit

section
variable {r : Option Nat} {P : Program} {ops : Array Oper} {Q : Exit → Act → World → Prop} {md : Region.Mode} {S : World → Prop}
theorem YieldsIf.wpOpIn {i : Nat} {o : Oper} {v : Value} {a : Act} (hi : ops[i]? = some o) (hd : ∀ c, o.op ≠ .defer c) (hy : YieldsIf P ops S o v a) {K : Act → World → Prop} {w : World} (hS : S w) (h : K (a.put o.dst v) w) :
    wpOpIn (fc r) 0 P ops Q i K a w := by
  unfold Go.wpOpIn
  simp only [hi]
  rcases hy with ⟨hw, hv⟩ | ⟨hw, rfl⟩
  · simp only [hw, if_true, Oper.wpIn, Oper.semAt_eq _ _ _ hd, hv w hS, Oper.uponIn]; exact ⟨fun _ _ => trivial, h⟩
  · simp only [hw, Bool.false_eq_true, if_false]; exact ⟨fun _ _ => trivial, h⟩
theorem wpOpIn_putIf {j : Nat} {oi oj : Oper} {v : Value} (hj : ops[j]? = some oj) (hap : oi.apart ops oj = true) (hdj : ∀ c, oj.op ≠ .defer c)
    (hsi : ∀ cs b, oi.op ≠ .select cs b) (hsj : ∀ cs b, oj.op ≠ .select cs b)
    (hQ : ∀ c a w, Q (.panic c) (a.put oi.dst v) w → Q (.panic c) a w) {K : Act → World → Prop} {a : Act} {w : World}
    (hy : YieldsIf P ops S oi v a) (h : wpOpIn (fc r) 0 P ops Q j K (a.put oi.dst v) w) :
    wpOpIn (fc r) 0 P ops Q j (fun a' w' => YieldsIf P ops S oi v a' ∧ K (a'.put oi.dst v) w') a w := by
  obtain ⟨h1, h2, h3⟩ := Oper.apart_spec hap
  have keep : ∀ (a : Act), YieldsIf P ops S oi v a → ∀ u, YieldsIf P ops S oi v (a.put oj.dst u) := fun a hy u =>
    hy.of_same (execOp_put oi hsi a oj.dst u h3) (wanted_put oi a oj.dst u h3)
  have keepD : ∀ d, YieldsIf P ops S oi v { a with defers := d :: a.defers } := fun d => hy.of_same rfl rfl
  unfold wpOpIn at *
  simp only [hj] at *
  rw [wanted_put oj a oi.dst v h1] at h
  split
  · rename_i hw
    simp only [hw, if_true] at h
    unfold Oper.wpIn at *
    refine ⟨fun _ _ => trivial, ?_⟩
    have h := h.2
    rw [Oper.semAt_eq _ _ _ hdj, execOp_put oj hsj a oi.dst v h1] at h
    rw [Oper.semAt_eq _ _ _ hdj]
    generalize (execOp a.eval oj).run P w = r at *
    cases r with
    | ok x w' =>
      cases x <;> simp only [Oper.uponIn] at h ⊢
      case value u => exact ⟨keep a hy u, by rw [← Act.put_comm a v u h2]; exact h⟩
      case skip => exact ⟨keep a hy _, by rw [← Act.put_comm a v undef h2]; exact h⟩
      case defer d =>
        refine ⟨keep _ (keepD d) _, ?_⟩
        rw [← Act.put_comm _ v undef h2, ← Act.put_defers]
        exact h
      case enter f args =>
        refine ⟨h.1, CallsIn.mono h.2 fun e w'' he => ?_⟩
        cases e with
        | returned u => exact ⟨keep a hy u, by rw [← Act.put_comm a v u h2]; exact he⟩
        | panicked c => exact hQ _ _ _ he
        | outgrown => exact he
      case row row args => exact ⟨h.1, RowsIn.mono h.2 fun u w'' he => ⟨keep a hy u, by rw [← Act.put_comm a v u h2]; exact he⟩⟩
      case round l f tmps assign body =>
        refine ⟨h.1, RoundIn.mono h.2 fun e w'' he => ?_⟩
        cases e with
        | returned u => exact ⟨keep a hy u, by rw [← Act.put_comm a v u h2]; exact he⟩
        | panicked c => exact hQ _ _ _ he
        | outgrown => exact he
    | halt x w' =>
      cases x <;> simp only [Oper.uponIn] at h ⊢
      case panic u => exact hQ _ _ _ h
  · rename_i hw
    simp only [hw] at h
    exact ⟨fun _ _ => trivial, keep a hy _, by rw [← Act.put_comm a v undef h2]; exact h.2⟩
theorem wpAnyIn_of_seq {Q' : Exit → Act → World → Prop} : ∀ (l : List Oper) (k : Nat) (listed : Array Bool) (a : Act) (w : World), (∀ j, l[j]? = ops[k + j]?) →
    Region.seqB md ops l.length k listed = true → wpListIn (fc r) 0 P ops Q' l a w → wpAnyIn (fc r) 0 P md ops Q' l.length listed a w
  | [], _, _, _, _, _, hB, h => ⟨by simpa [Region.seqB] using hB, h⟩
  | o :: l, k, listed, a, w, hl, hB, h => by
    have h0 : ops[k]? = some o := by simpa using (hl 0).symm
    simp only [List.length_cons, Region.seqB, Bool.and_eq_true, decide_eq_true_eq] at hB
    refine ⟨fun h1 => (by rw [hB.1] at h1; cases h1), fun i hi => ?_⟩
    rw [hB.1] at hi
    have hik : i = k := by simpa using hi
    subst hik
    have hw : wpOpIn (fc r) 0 P ops Q' i (wpListIn (fc r) 0 P ops Q' l) a w := by unfold wpOpIn; simp only [h0]; exact h
    exact wpOpIn_mono (fun a' w' h' => wpAnyIn_of_seq l (i + 1) _ a' w' (fun j => by have := hl (j + 1); simpa [Nat.add_assoc, Nat.add_comm 1 j] using this) hB.2 h') hw
/-- No defer statement. -/
def noDef (l : List Oper) : Bool := match l with | [] => true | o :: l => (match o.op with | .defer _ => false | _ => true) && noDef l
theorem noDef_get : ∀ {l : List Oper} {i : Nat} {o : Oper}, noDef l = true → l[i]? = some o → ∀ c, o.op ≠ .defer c
  | [], i, o, _, h => by simp at h
  | x :: l, 0, o, h, hi => by
    simp at hi; subst hi
    intro c hc
    simp [noDef, hc] at h
  | x :: l, i + 1, o, h, hi => by
    simp only [noDef, Bool.and_eq_true] at h
    exact noDef_get h.2 (by simpa using hi)
/-- The head of a region (operations below n), whatever order is picked, S holding behind each; Lf where the head is done. -/
def wpHd (r : Option Nat) (P : Program) (md : Region.Mode) (ops : Array Oper) (Q : Exit → Act → World → Prop) (S : World → Prop) (n : Nat) (Lf : Array Bool → Act → World → Prop) : Nat → Array Bool → Act → World → Prop
  | 0, listed, a, w => Lf listed a w
  | f + 1, listed, a, w => Region.ready md ops listed ≠ [] ∧ ∀ i ∈ Region.ready md ops listed, i < n ∧ wpOpIn (fc r) 0 P ops Q i (fun a' w' => S w' ∧ wpHd r P md ops Q S n Lf f (listed.setIfInBounds i true) a' w') a w
theorem wpAny_of_hd {n g : Nat} {Lf : Array Bool → Act → World → Prop} (hL : ∀ listed a w, Lf listed a w → wpAnyIn (fc r) 0 P md ops Q g listed a w) :
    ∀ (f : Nat) (listed : Array Bool) (a : Act) (w : World), wpHd r P md ops Q S n Lf f listed a w → wpAnyIn (fc r) 0 P md ops Q (f + g) listed a w
  | 0, listed, a, w, h => by rw [Nat.zero_add]; exact hL _ _ _ h
  | f + 1, listed, a, w, h => by
    rw [show f + 1 + g = (f + g) + 1 by omega]
    exact ⟨fun h0 => absurd h0 h.1, fun i hi => wpOpIn_mono (fun a' w' h' => wpAny_of_hd hL f _ a' w' h'.2) (h.2 i hi).2⟩
theorem wpAny_of_hd' {w0 : World} {n g : Nat} {Lf : Array Bool → Act → World → Prop} (hL : ∀ listed a w, Ext w0 w → Lf listed a w → wpAnyIn (fc r) 0 P md ops Q g listed a w) :
    ∀ (f : Nat) (listed : Array Bool) (a : Act) (w : World), Ext w0 w → wpHd r P md ops Q (fun w' => Ext w0 w') n Lf f listed a w → wpAnyIn (fc r) 0 P md ops Q (f + g) listed a w
  | 0, listed, a, w, he, h => by rw [Nat.zero_add]; exact hL _ _ _ he h
  | f + 1, listed, a, w, he, h => by
    rw [show f + 1 + g = (f + g) + 1 by omega]
    exact ⟨fun h0 => absurd h0 h.1, fun i hi => wpOpIn_mono (fun a' w' h' => wpAny_of_hd' hL f _ a' w' h'.1 h'.2) (h.2 i hi).2⟩
/-- No operation of the tail may come up while one of the head has not. -/
def TailWaits (md : Region.Mode) (ops : Array Oper) (n : Nat) : Prop :=
  ∀ listed, HeadInv md ops n listed → ∀ i, i < n → listed.getD i true = false → ∀ t ∈ Region.ready md ops listed, t < n
theorem tailWaits_of {n : Nat} (hs : Region.sinkB md ops n = true) (hc : Region.chainB md ops n = true) (hn : n < ops.size) : TailWaits md ops n := by
  intro listed inv i hi hun t ht
  rcases Nat.lt_or_ge t n with h | h
  · exact h
  · exact absurd ht (tail_waits hs hc hn inv _ i rfl hi hun t h)
theorem tailWaits_none {n : Nat} (hn : n = ops.size) : TailWaits md ops n := by
  intro listed _ i _ _ t ht
  obtain ⟨_, ot, hot, _⟩ := mem_ready.1 ht
  have := (Array.getElem?_eq_some_iff.1 hot).1
  omega
theorem wpHd_first {n i : Nat} {oi : Oper} {v : Value} {Lf : Array Bool → Act → World → Prop} (hi : ops[i]? = some oi) (hdf : noDef ops.toList = true) (hsel : ∀ (j : Nat) (o : Oper) cs b, ops[j]? = some o → o.op ≠ .select cs b)
    (hQ : ∀ c a w, Q (.panic c) (a.put oi.dst v) w → Q (.panic c) a w) (ht : TailWaits md ops n) (hin : i < n)
    (hdone : ∀ listed a w, Lf listed a w → ∀ j ∈ Region.ready md ops listed, n ≤ j) :
    ∀ (f : Nat) (listed : Array Bool) (a : Act) (w : World), HeadInv md ops n listed →
      (∀ j oj, ops[j]? = some oj → j ≠ i → listed.getD j true = false → (∀ e ∈ oj.after, Region.binds md e = true → e.on ≠ i) → oi.apart ops oj = true) →
      i ∈ Region.ready md ops listed → YieldsIf P ops S oi v a → S w →
      wpHd r P md ops Q S n Lf f (listed.setIfInBounds i true) (a.put oi.dst v) w → wpHd r P md ops Q S n Lf (f + 1) listed a w := by
  intro f
  induction f with
  | zero =>
    intro listed a w inv _ hr hy hS H
    have hun := (mem_ready.1 hr).1
    refine ⟨fun h => (by rw [h] at hr; cases hr), fun j hj => ?_⟩
    have hjn : j < n := ht listed inv i hin hun j hj
    refine ⟨hjn, ?_⟩
    by_cases hji : j = i
    · subst hji; exact YieldsIf.wpOpIn hi (noDef_get hdf (by simpa using hi)) hy hS ⟨hS, H⟩
    · have := hdone _ _ _ H j (ready_mono hj hji)
      omega
  | succ f ih =>
    intro listed a w inv hfree hr hy hS H
    have hun := (mem_ready.1 hr).1
    refine ⟨fun h => (by rw [h] at hr; cases hr), fun j hj => ?_⟩
    have hjn : j < n := ht listed inv i hin hun j hj
    refine ⟨hjn, ?_⟩
    by_cases hji : j = i
    · subst hji; exact YieldsIf.wpOpIn hi (noDef_get hdf (by simpa using hi)) hy hS ⟨hS, H⟩
    · have h1 := (H.2 j (ready_mono hj hji)).2
      obtain ⟨hjun, oj, hoj, hall⟩ := mem_ready.1 hj
      have hnot : ∀ e ∈ oj.after, Region.binds md e = true → e.on ≠ i := fun e he hb heq => by
        have h1 := hall e he hb
        rw [heq, getD_both hun] at h1
        cases h1
      have h2 := wpOpIn_putIf hoj (hfree j oj hoj hji hjun hnot) (noDef_get hdf (by simpa using hoj)) (fun cs b => hsel i oi cs b hi) (fun cs b => hsel j oj cs b hoj) hQ hy h1
      have hfree' : ∀ k ok, ops[k]? = some ok → k ≠ i → (listed.setIfInBounds j true).getD k true = false →
          (∀ e ∈ ok.after, Region.binds md e = true → e.on ≠ i) → oi.apart ops ok = true := fun k ok hk hki hun hno => by
        refine hfree k ok hk hki ?_ hno
        by_cases hjk : j = k
        · subst hjk; exact hjun
        · rw [getD_set_ne true hjk] at hun; exact hun
      refine wpOpIn_mono (fun a' w' h3 => ⟨h3.2.1, ih (listed.setIfInBounds j true) a' w' (inv.set hj hjn) hfree' (ready_mono hr (Ne.symm hji)) h3.1 h3.2.1 ?_⟩) h2
      rw [Array.setIfInBounds_comm _ _ hji]
      exact h3.2.2
end

/-! ### The computed condition -/
/-- The slot that a guard asks, and the answer that is wanted. -/
def gdE (ops : List Oper) (g : Nat × Bool) : Option (Tmp × Bool) :=
  match ops[g.1]? with
  | some o => match o.dst with
    | some t => some (t, g.2)
    | none => none
  | none => none
/-- A condition on a Bool, both ways. -/
def cnd (b : Bool) (x y : Prop) : Prop := match b with | true => x | false => y
theorem cnd_decide {p : Prop} [Decidable p] {x y : Prop} (h1 : p → x) (h2 : ¬ p → y) : cnd (decide p) x y := by
  by_cases h : p
  · simp only [h, decide_true]; exact h1 h
  · simp only [h, decide_false]; exact h2 h
theorem cnd_not {b : Bool} {x y : Prop} (h : cnd b y x) : cnd (!b) x y := by cases b <;> exact h
theorem cnd_true {x y : Prop} (h : x) : cnd true x y := h
theorem cnd_false {x y : Prop} (h : y) : cnd false x y := h
theorem cnd_mk {b : Bool} {x y : Prop} (h1 : b = true → x) (h2 : b = false → y) : cnd b x y := by
  cases b
  · exact h2 rfl
  · exact h1 rfl
/-- Run an operation under its guard: carried out, or passed over. -/
def gdC (ops : List Oper) (L : Env) (o : Oper) (run : Env → Prop) (skip : Env → Prop) : Prop :=
  match o.guard with
  | none => run L
  | some g => onE (gdE ops g) fun x => onE (look L x.1) fun v => match v with
    | .bool b => match x.2 with
      | true => cnd b (run ((x.1, .bool true) :: L)) (skip ((x.1, .bool false) :: L))
      | false => cnd b (skip ((x.1, .bool true) :: L)) (run ((x.1, .bool false) :: L))
    | .tuple _ => skip L
    | _ => False
theorem Kn.know {n : Nat} {a : Act} {L : Env} (h : Kn n a L) {t : Nat} {v : Value} (hv : look L t = some v) {u : Value} (e : v = u) : Kn n a ((t, u) :: L) := by
  subst e
  refine h.weak fun s x hx => ?_
  rw [look_cons] at hx
  by_cases e : t = s
  · subst e; rw [if_pos rfl] at hx; cases hx; exact hv
  · rw [if_neg e] at hx; exact hx
theorem gdC_sound {ops : List Oper} {n : Nat} {a : Act} {L : Env} {o : Oper} {run skip : Env → Prop} (hn : Kn n a L) (h : gdC ops L o run skip) :
    (Region.wanted o (yielded ops.toArray a.tmps) = true ∧ ∃ L', Kn n a L' ∧ run L') ∨ (Region.wanted o (yielded ops.toArray a.tmps) = false ∧ ∃ L', Kn n a L' ∧ skip L') := by
  unfold gdC at h
  split at h
  · rename_i h0
    exact .inl ⟨by simp [Region.wanted, h0], L, hn, h⟩
  · rename_i g h0
    replace h := onE_elim h
    obtain ⟨x, hx, h⟩ := h
    replace h := onE_elim h
    obtain ⟨v, hv, h⟩ := h
    obtain ⟨j, want⟩ := g
    unfold gdE at hx
    split at hx
    · rename_i oj hj
      split at hx
      · rename_i t ht
        cases hx
        have hat := hn.at_ t _ hv
        simp only at h
        split at h
        · rename_i b
          have hy : yielded ops.toArray a.tmps j = some b := by
            simp at hj
            simp [yielded, hj, ht, hat]
          have hw : Region.wanted o (yielded ops.toArray a.tmps) = (some b == some want) := by simp [Region.wanted, h0, hy]
          cases want with
          | true =>
            simp only [] at h
            cases b with
            | true => exact .inl ⟨by rw [hw]; rfl, _, hn.know hv rfl, h⟩
            | false => exact .inr ⟨by rw [hw]; rfl, _, hn.know hv rfl, h⟩
          | false =>
            simp only [] at h
            cases b with
            | true => exact .inr ⟨by rw [hw]; rfl, _, hn.know hv rfl, h⟩
            | false => exact .inl ⟨by rw [hw]; rfl, _, hn.know hv rfl, h⟩
        · have hy : yielded ops.toArray a.tmps j = none := by
            simp at hj
            simp [yielded, hj, ht, hat]
          exact .inr ⟨by simp [Region.wanted, h0, hy], L, hn, h⟩
        · exact h.elim
      · cases hx
    · cases hx

def okDst (nt : Nat) (ops : List Oper) : Bool := match ops with | [] => true | o :: l => dstOk nt o.dst && okDst nt l
def pickFl (ops : Array Oper) (n : Nat) (listed : Array Bool) : List Nat → Option Nat
  | [] => none
  | i :: l => match (match ops.toList[i]? with | some o => isFl o.op | none => false) && Nat.blt i n && Region.free .any ops listed i with | true => some i | false => pickFl ops n listed l
def allN (l : List Nat) (p : Nat → Prop) : Prop := match l with | [] => True | [i] => p i | i :: l => p i ∧ allN l p
theorem allN_mem : ∀ {l : List Nat} {p : Nat → Prop}, allN l p → ∀ i ∈ l, p i
  | [], _, _, i, hi => by cases hi
  | [j], p, h, i, hi => by simp at hi; subst hi; exact h
  | j :: k :: l, p, h, i, hi => by
    rcases List.mem_cons.1 hi with rfl | hi
    · exact h.1
    · exact allN_mem h.2 i hi
def doneB (n : Nat) (listed : Array Bool) : Bool := (List.range n).all fun i => listed.getD i true
def drw (P : Program) (nt : Nat) (ops : Array Oper) (n : Nat) (w0 : World) : Nat → Array Bool → Env → World → (Env → World → Prop) → Prop
  | 0, listed, L, w, K => match doneB n listed && Region.seqB .any ops (ops.size - n) n listed with | true => K L w | false => False
  | f + 1, listed, L, w, K => match Region.ready .any ops listed with
    | [] => False
    | rs => match pickFl ops n listed rs with
      | some i => onE ops.toList[i]? fun o => gdC ops.toList L o (fun L => fl P L o.op o.type w0 fun v => drw P nt ops n w0 f (listed.setIfInBounds i true) (putE o.dst v L) w K) (fun L => drw P nt ops n w0 f (listed.setIfInBounds i true) (putE o.dst undef L) w K)
      | none => allN rs fun i => match Nat.blt i n with
        | true => onE ops.toList[i]? fun o => gdC ops.toList L o (fun L => sp P L o.op o.type w fun v w' => Ext w w' ∧ drw P nt ops n w0 f (listed.setIfInBounds i true) (putE o.dst v L) w' K) (fun L => drw P nt ops n w0 f (listed.setIfInBounds i true) (putE o.dst undef L) w K)
        | false => False
section
variable {r : Option Nat} {d0 : List Deferred} {P : Program} {nt n : Nat} {ops : Array Oper} {Q : Exit → Act → World → Prop} {w0 : World} {K : Env → World → Prop}
def LfD (d0 : List Deferred) (ops : Array Oper) (nt n : Nat) (K : Env → World → Prop) (listed : Array Bool) (a : Act) (w : World) : Prop :=
  (∀ i, i < n → listed.getD i true = true) ∧ Region.seqB .any ops (ops.size - n) n listed = true ∧ a.defers = d0 ∧ ∃ L, Kn nt a L ∧ K L w
theorem lfD_done {listed : Array Bool} {a : Act} {w : World} (h : LfD d0 ops nt n K listed a w) : ∀ j ∈ Region.ready .any ops listed, n ≤ j := by
  intro j hj
  rcases Nat.lt_or_ge j n with hl | hl
  · have := h.1 j hl
    have h2 := (mem_ready.1 hj).1
    rw [this] at h2; cases h2
  · exact hl
theorem okDst_get {nt : Nat} : ∀ {l : List Oper} {i : Nat} {o : Oper}, okDst nt l = true → l[i]? = some o → dstOk nt o.dst = true
  | [], i, o, _, h => by simp at h
  | x :: l, 0, o, h, hi => by simp at hi; subst hi; simp only [okDst, Bool.and_eq_true] at h; exact h.1
  | x :: l, i + 1, o, h, hi => by simp only [okDst, Bool.and_eq_true] at h; exact okDst_get h.2 (by simpa using hi)
theorem pickFl_some {listed : Array Bool} : ∀ {l : List Nat} {i : Nat}, pickFl ops n listed l = some i → i ∈ l ∧ i < n ∧ Region.free .any ops listed i = true
  | [], i, h => by cases h
  | j :: l, i, h => by
    unfold pickFl at h
    split at h
    · rename_i hb
      cases h
      simp only [Bool.and_eq_true] at hb
      exact ⟨List.mem_cons_self .., by simpa using hb.1.2, hb.2⟩
    · obtain ⟨h1, h2⟩ := pickFl_some h
      exact ⟨List.mem_cons_of_mem _ h1, h2⟩
theorem put_defers (a : Act) (d : Option Tmp) (v : Value) : (a.put d v).defers = a.defers := by cases d <;> rfl
theorem drw_sound (hd : okDst nt ops.toList = true) (hdf : noDef ops.toList = true) (hsel : Region.noSelect ops = true) (ht : TailWaits .any ops n) (hQ : ∀ c a w, Q (.panic c) a w ↔ False) :
    ∀ (f : Nat) (listed : Array Bool) (L : Env) (w : World) (a : Act), Kn nt a L → a.defers = d0 → Ext w0 w → HeadInv .any ops n listed → drw P nt ops n w0 f listed L w K →
      wpHd r P .any ops Q (fun w' => Ext w0 w') n (LfD d0 ops nt n K) f listed a w := by
  intro f
  induction f with
  | zero =>
    intro listed L w a hk hdd hw inv h
    unfold drw at h
    split at h
    · rename_i hb
      simp only [Bool.and_eq_true] at hb
      refine ⟨fun i hi => ?_, hb.2, hdd, L, hk, h⟩
      have := List.all_eq_true.1 hb.1 i (List.mem_range.2 hi)
      simpa using this
    · exact h.elim
  | succ f ih =>
    intro listed L w a hk hdd hw inv h
    unfold drw at h
    split at h
    · exact h.elim
    · rename_i rs hne
      split at h
      · rename_i i hp
        obtain ⟨hir, hin, hfree⟩ := pickFl_some hp
        replace h := onE_elim h
        obtain ⟨o, ho, h⟩ := h
        have hoi : ops[i]? = some o := by simpa using ho
        have hdo : dstOk nt o.dst = true := okDst_get hd ho
        have ho2 := mem_ready.1 hir
        rcases gdC_sound hk h with ⟨hw1, L', hk', hr⟩ | ⟨hw1, L', hk', hr⟩
        · obtain ⟨v, hv, hrun⟩ := fl_sound hk' hr
          refine wpHd_first hoi hdf (Region.noSelect_spec hsel) (fun c a w hq => (hQ _ _ _).1 hq |>.elim) ht hin (fun _ _ _ hl => lfD_done hl) f listed a w inv (Region.free_spec hoi hfree) hir (.inl ⟨by simpa using hw1, fun w' hw' => hrun w' hw'⟩) hw ?_
          exact ih _ _ _ _ (hk'.put hdo v) ((put_defers _ _ _).trans hdd) hw (inv.set hir hin) hv
        · refine wpHd_first hoi hdf (Region.noSelect_spec hsel) (fun c a w hq => (hQ _ _ _).1 hq |>.elim) ht hin (fun _ _ _ hl => lfD_done hl) f listed a w inv (Region.free_spec hoi hfree) hir (.inr ⟨by simpa using hw1, rfl⟩) hw ?_
          exact ih _ _ _ _ (hk'.put hdo undef) ((put_defers _ _ _).trans hdd) hw (inv.set hir hin) hr
      · refine ⟨fun h0 => hne h0, fun i hi => ?_⟩
        have h1 := allN_mem h i hi
        split at h1
        · rename_i hb
          have hin : i < n := by simpa using hb
          refine ⟨hin, ?_⟩
          replace h1 := onE_elim h1
          obtain ⟨o, ho, h1⟩ := h1
          have hoi : ops[i]? = some o := by simpa using ho
          have hdo : dstOk nt o.dst = true := okDst_get hd ho
          unfold wpOpIn
          simp only [hoi]
          rcases gdC_sound hk h1 with ⟨hw1, L', hk', hr⟩ | ⟨hw1, L', hk', hr⟩
          · simp only [Array.toArray_toList] at hw1
            simp only [hw1, if_true]
            refine sp_sound hk' hr ?_
            rintro v w' ⟨he, h2⟩ _
            exact ⟨hw.trans he, ih _ _ _ _ (hk'.put hdo v) ((put_defers _ _ _).trans hdd) (hw.trans he) (inv.set hi hin) h2⟩
          · simp only [Array.toArray_toList] at hw1
            simp only [hw1, Bool.false_eq_true, if_false]
            exact ⟨fun _ _ => trivial, hw, ih _ _ _ _ (hk'.put hdo undef) ((put_defers _ _ _).trans hdd) hw (inv.set hi hin) hr⟩
        · exact h1.elim
end
end Go.Proofs.Ythekpkamedjloaa
