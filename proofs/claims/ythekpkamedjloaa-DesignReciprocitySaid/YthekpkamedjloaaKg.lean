/- The condition of a stretch of code, computed; loops; functions. -/
import Derived.Test.YthekpkamedjloaaKf
namespace Go.Proofs.Ythekpkamedjloaa
open Go.RowKit

/-- A function's text, and what the generator says of it: for each loop (by its block's number) the slots that live at its head; for each region that draws where its tail begins. -/
structure FD where
  P : Program
  f : FuncId
  code : Code
  nt : Nat
  res : List ResultVar
  live : Nat → List Nat
  tail : Nat → Nat
  rnd : Bool
  ng : Bool
/-- The same, in a round of a loop over a function. -/
def FD.inR (F : FD) : FD := { F with rnd := true }
inductive It where
  | code (c : Code)
  | ops (all l : List Oper)
  | blk (id : Nat)
  | again (i : Nat)
  | fin
inductive Ex where
  | ret
  | again (i : Nat)
  | fin
  | rret
  | out (id : Nat)
abbrev Post := Ex → List Value → World → Prop
def zipE : List Nat → List Value → Env
  | i :: is, v :: vs => (i, v) :: zipE is vs
  | _, _ => []
def picks (L : Env) : List Nat → Option (List Value)
  | [] => some []
  | i :: is => match look L i with | some v => (match picks L is with | some vs => some (v :: vs) | none => none) | none => none
theorem picks_sub {L : Env} : ∀ {is : List Nat} {vs : List Value}, picks L is = some vs → ∀ t v, look (zipE is vs) t = some v → look L t = some v
  | [], vs, h, t, v, hv => by simp [picks] at h; subst h; simp [zipE, look] at hv
  | i :: is, vs, h, t, v, hv => by
    unfold picks at h
    split at h
    · rename_i u hu
      split at h
      · rename_i us hus
        cases h
        rw [zipE, look_cons] at hv
        by_cases e : i = t
        · subst e; rw [if_pos rfl] at hv; cases hv; exact hu
        · rw [if_neg e] at hv; exact picks_sub hus t v hv
      · cases h
    · cases h
def popTo (id : Nat) : List It → Option (List It)
  | [] => none
  | .blk i :: k => match Nat.beq i id with | true => some k | false => popTo id k
  | _ :: k => popTo id k
def nearest : List It → Nat
  | [] => 0
  | .blk i :: _ => i
  | _ :: k => nearest k

/-! ### What a stack of code means -/
abbrev AW := Act → World → Prop
/-- What is asked where a stack of code is left. -/
structure Lv where
  ret : AW
  again : Nat → AW
  fin : AW
  out : Nat → AW
def mkQ (V : Lv) (s : AW × (Nat → Option AW)) : Exit → Act → World → Prop
  | .normal, a, w => s.1 a w
  | .exit id, a, w => match s.2 id with | some p => p a w | none => V.out id a w
  | .ret, a, w => V.ret a w
  | _, _, _ => False
def sem (r : Option Nat) (P : Program) (V : Lv) : List It → AW × (Nat → Option AW)
  | [] => (V.ret, fun _ => none)
  | .blk i :: k => ((sem r P V k).1, fun id => match Nat.beq i id with | true => some (sem r P V k).1 | false => (sem r P V k).2 id)
  | .code c :: k => (fun a w => c.wpIn (fc r) 0 P (mkQ V (sem r P V k)) a w, (sem r P V k).2)
  | .ops all l :: k => (fun a w => wpListIn (fc r) 0 P all.toArray (mkQ V (sem r P V k)) l a w, (sem r P V k).2)
  | .again i :: k => (V.again i, (sem r P V k).2)
  | .fin :: k => (V.fin, (sem r P V k).2)
theorem sem_popTo {r : Option Nat} {P : Program} {V : Lv} (id : Nat) : ∀ k, (sem r P V k).2 id = (popTo id k).map fun k' => (sem r P V k').1
  | [] => rfl
  | .blk i :: k => by
    simp only [sem, popTo]
    cases Nat.beq i id
    · exact sem_popTo id k
    · rfl
  | .code c :: k => sem_popTo id k
  | .ops all l :: k => sem_popTo id k
  | .again i :: k => sem_popTo id k
  | .fin :: k => sem_popTo id k

/-! ### Results -/
def retC (P : Program) (L : Env) (w : World) : List ResultVar → List Value → (Value → Prop) → Prop
  | [], acc, k => match acc with | [v] => k v | vs => k (.tuple vs.toArray)
  | .tmp t :: rs, acc, k => onE (look L t) fun v => retC P L w rs (acc ++ [v]) k
  | .cell t ty :: rs, acc, k => onE (look L t) fun p => match p with | .pointer (some ad) => ldC P ty ad w fun v => retC P L w rs (acc ++ [v]) k | _ => False
def resV (vs : List Value) : Value := match vs with | [v] => v | vs => .tuple vs.toArray
def resM (tmps : Array Value) : ResultVar → Sem Value := fun
  | .tmp t => pure (tmps.getD t undef)
  | .cell a t => do loadVar t (← asAddr (tmps.getD a undef))
theorem retC_sound {P : Program} {n : Nat} {L : Env} {a : Act} {w : World} (hn : Kn n a L) : ∀ (rs : List ResultVar) (acc : List Value) (k : Value → Prop), retC P L w rs acc k →
    ∃ vs, (∀ w', SameC w w' → (rs.mapM (resM a.tmps)).run P w' = .ok vs w') ∧ k (resV (acc ++ vs))
  | [], acc, k, h => by
    refine ⟨[], fun _ _ => by simp, ?_⟩
    unfold retC at h
    rw [List.append_nil]
    unfold resV
    split at h <;> exact h
  | .tmp t :: rs, acc, k, h => by
    unfold retC at h
    replace h := onE_elim h
    obtain ⟨v, hv, h⟩ := h
    obtain ⟨vs, hr, hk⟩ := retC_sound hn rs _ k h
    refine ⟨v :: vs, fun w' hw => ?_, by simpa using hk⟩
    have e : a.tmps.getD t undef = v := by simp [Array.getD_eq_getD_getElem?, hn.at_ t v hv]
    simp only [List.mapM_cons, resM, e, Sem.run_bind, Sem.run_pure, Result.andThen_ok]
    rw [hr w' hw]; simp
  | .cell t ty :: rs, acc, k, h => by
    unfold retC at h
    replace h := onE_elim h
    obtain ⟨p, hp, h⟩ := h
    split at h
    · rename_i ad
      obtain ⟨v, h, hl⟩ := ldC_sound' h
      obtain ⟨vs, hr, hk⟩ := retC_sound hn rs _ k h
      refine ⟨v :: vs, fun w' hw => ?_, by simpa using hk⟩
      have e : a.tmps.getD t undef = .pointer (some ad) := by simp [Array.getD_eq_getD_getElem?, hn.at_ t _ hp]
      simp only [List.mapM_cons, resM, e, Sem.run_bind, asAddr, Sem.run_pure, Result.andThen_ok, hl w' hw]
      rw [hr w' hw]; simp
    · exact h.elim
theorem results_run {P : Program} {fn : Func} {tmps : Array Value} {w : World} {vs : List Value} (h : ((fn.results.toList.mapM (resM tmps)).run P w = .ok vs w)) :
    (results fn tmps).run P w = .ok (resV vs) w := by
  have h2 : ((fn.results.mapM (resM tmps)).run P w = .ok vs.toArray w) := by
    rw [← Array.toArray_toList (xs := fn.results), List.mapM_toArray]
    simp only [map_eq_pure_bind, Sem.run_bind, h]; simp
  show ((do let vs ← fn.results.mapM (resM tmps); pure (if h : vs.size = 1 then vs[0] else .tuple vs) : Sem Value)).run P w = _
  simp only [Sem.run_bind, h2, Result.andThen_ok, Sem.run_pure]
  match vs with
  | [] => rfl
  | [v] => rfl
  | v :: u :: us => rfl

/-! ### The condition -/
def mark (D : Nat) : Deferred := { target := .collected D, args := #[] }
/-- The book-keeping of an activation: w0: the world in which it (or its round) began; r: the record of the loop whose round it is. -/
structure Fr (r : Option Nat) (ng : Bool) (w0 : World) (a : Act) (w : World) : Prop where
  keep : Keeps w0 w
  rcd : ∀ l, r = some l → ∃ q, w.heap[l]? = some (.loop q) ∧ q.state = .busy
  defs : ∃ Ds : List Nat, a.defers = Ds.map mark ∧ (∀ D ∈ Ds, w0.heap.size ≤ D ∧ w.heap[D]? = some (.deferred (some []))) ∧ (ng = true → Ds = []) ∧ Ds.Nodup
theorem Fr.step {r : Option Nat} {ng : Bool} {w0 w w' : World} {a a' : Act} (h : Fr r ng w0 a w) (hk : Keeps w w') (hd : a'.defers = a.defers) : Fr r ng w0 a' w' := by
  refine ⟨h.keep.trans hk, fun l hl => ?_, ?_⟩
  · obtain ⟨q, hq, hs⟩ := h.rcd l hl
    exact ⟨q, hk.same l _ hq (by simp [isFr, hs]), hs⟩
  · obtain ⟨Ds, h1, h2, h3⟩ := h.defs
    exact ⟨Ds, hd.trans h1, fun D hD => ⟨(h2 D hD).1, hk.same D _ (h2 D hD).2 rfl⟩, h3⟩
def LvF (F : FD) (r : Option Nat) (w0 : World) (Q : Post) : Lv where
  ret := fun a w => Fr r F.ng w0 a w ∧ match F.rnd with
    | true => Q .rret [] w
    | false => ∃ v, (∀ fn : Func, fn.results.toList = F.res → ∀ w', SameC w w' → (results fn a.tmps).run F.P w' = .ok v w') ∧ Q .ret [v] w
  again := fun i a w => Fr r F.ng w0 a w ∧ ∃ vs, Kn F.nt a (zipE (F.live i) vs) ∧ Q (.again i) vs w
  fin := fun a w => Fr r F.ng w0 a w ∧ Q .fin [] w
  out := fun id a w => Fr r F.ng w0 a w ∧ Q (.out id) [] w
/-- A loop's head, with these values in the slots that live there: what follows leads to Q. -/
def J (F : FD) (s : List It) (i : Nat) (vs : List Value) (w : World) (Q : Post) : Prop :=
  ∀ (r : Option Nat) (w0 : World) (a : Act), r.isSome = F.rnd → Fr r F.ng w0 a w → Kn F.nt a (zipE (F.live i) vs) → (sem r F.P (LvF F r w0 Q) s).1 a w
def vcs (F : FD) : Nat → List It → Env → World → Post → Prop
  | 0, _, _, _, _ => False
  | n + 1, k, L, w, Q => match k with
    | [] => match F.rnd with | true => Q .rret [] w | false => retC F.P L w F.res [] fun v => Q .ret [v] w
    | .blk _ :: k => vcs F n k L w Q
    | .fin :: _ => Q .fin [] w
    | .again i :: _ => onE (picks L (F.live i)) fun vs => Q (.again i) vs w
    | .ops _ [] :: k => vcs F n k L w Q
    | .ops all (o :: l) :: k => match dstOk F.nt o.dst with
      | true => gdC all L o
        (fun L => match isFl o.op with
          | true => fl F.P L o.op o.type w fun v => vcs F n (.ops all l :: k) (putE o.dst v L) w Q
          | false => sp F.P L o.op o.type w fun v w => vcs F n (.ops all l :: k) (putE o.dst v L) w Q)
        (fun L => vcs F n (.ops all l :: k) (putE o.dst undef L) w Q)
      | false => False
    | .code c :: k => match c with
      | .skip => vcs F n k L w Q
      | .label _ => vcs F n k L w Q
      | .seq a b => vcs F n (.code a :: .code b :: k) L w Q
      | .region id ops draw => match draw with
        | false => vcs F n (.ops ops.toList ops.toList :: k) L w Q
        | true => match okDst F.nt ops.toList && noDef ops.toList && Region.noSelect ops && (Nat.beq (F.tail id) ops.size || (Nat.blt (F.tail id) ops.size && Region.sinkB .any ops (F.tail id) && Region.chainB .any ops (F.tail id))) with
          | true => ∀ w0, w0 = w.drew → drw F.P F.nt ops (F.tail id) w0 (F.tail id) (Array.replicate ops.size false) L w0 fun L w => vcs F n (.ops ops.toList (ops.toList.drop (F.tail id)) :: k) L w Q
          | false => False
      | .cond c x y => onE (ev L c) fun v => match v with | .bool b => cnd b (vcs F n (.code x :: k) L w Q) (vcs F n (.code y :: k) L w Q) | _ => False
      | .block id b => vcs F n (.code b :: .blk id :: k) L w Q
      | .exit id => match popTo id k with | some k' => vcs F n k' L w Q | none => Q (.out id) [] w
      | .ret => match F.rnd with | true => Q .rret [] w | false => retC F.P L w F.res [] fun v => Q .ret [v] w
      | .loop b => onE (picks L (F.live (nearest k))) fun vs => J F (.code (.loop b) :: k) (nearest k) vs w Q
      | .rangeFunc f ps x y => match F.ng with | true => False | false => onE (picks L (F.live (nearest k))) fun vs => J F (.code (.rangeFunc f ps x y) :: k) (nearest k) vs w Q
      | _ => False
section
variable {F : FD} {Q : Post} {r : Option Nat} {w0 : World}
theorem wpIn_seq_k' {P : Program} {x y : Code} {V : Lv} {s : AW × (Nat → Option AW)} {a : Act} {w : World}
    (h : x.wpIn (fc r) 0 P (mkQ V (fun a w => y.wpIn (fc r) 0 P (mkQ V s) a w, s.2)) a w) : (Code.seq x y).wpIn (fc r) 0 P (mkQ V s) a w := by
  refine wpIn_seq (wpIn_mono h ?_)
  intro e a w hq
  cases e <;> exact hq
theorem retF {L : Env} {a : Act} {w : World} (hf : Fr r F.ng w0 a w) (hn : Kn F.nt a L) (h : match F.rnd with | true => Q .rret [] w | false => retC F.P L w F.res [] fun v => Q .ret [v] w) : (LvF F r w0 Q).ret a w := by
  refine ⟨hf, ?_⟩
  cases hr : F.rnd with
  | true => rw [hr] at h; exact h
  | false =>
    rw [hr] at h
    obtain ⟨vs, hr, hk⟩ := retC_sound hn _ _ _ h
    refine ⟨_, fun fn hfn w' hw => ?_, hk⟩
    have hr := hr w' hw
    rw [← hfn] at hr
    exact results_run hr
theorem vcs_sound (hm : F.P.follows .mixedOrders = true) (hrn : r.isSome = F.rnd) : ∀ (n : Nat) (k : List It) (L : Env) (w : World), vcs F n k L w Q → ∀ a, Fr r F.ng w0 a w → Kn F.nt a L → (sem r F.P (LvF F r w0 Q) k).1 a w := by
  intro n
  induction n with
  | zero => intro k L w h; exact h.elim
  | succ n ih =>
    intro k L w h a hf hk
    unfold vcs at h
    split at h
    · exact retF hf hk h
    · exact ih _ _ _ h a hf hk
    · exact ⟨hf, h⟩
    · replace h := onE_elim h
      obtain ⟨vs, hv, h⟩ := h
      exact ⟨hf, vs, hk.weak (picks_sub hv), h⟩
    · exact ih _ _ _ h a hf hk
    · rename_i all o l k
      split at h
      · rename_i hd
        show wpListIn (fc r) 0 F.P all.toArray _ (o :: l) a w
        unfold wpListIn
        rcases gdC_sound hk h with ⟨hw1, L', hk', hr⟩ | ⟨hw1, L', hk', hr⟩
        · simp only [hw1, if_true]
          split at hr
          · rename_i hfl
            obtain ⟨v, hv, hrun⟩ := fl_sound hk' hr
            exact wp_val (hrun w (Ext.refl w)) (by intro c hc; rw [hc] at hfl; cases hfl) (ih _ _ _ hv _ (hf.step (Keeps.refl _) (put_defers _ _ _)) (hk'.put hd v))
          · exact sp_sound hk' hr fun v w' hv hkp => ih _ _ _ hv _ (hf.step hkp (put_defers _ _ _)) (hk'.put hd v)
        · simp only [hw1, Bool.false_eq_true, if_false]
          exact ⟨fun _ _ => trivial, ih _ _ _ hr _ (hf.step (Keeps.refl _) (put_defers _ _ _)) (hk'.put hd undef)⟩
      · exact h.elim
    · rename_i c k
      cases c with
      | skip => exact wpIn_skip (ih _ _ _ h a hf hk)
      | label l => exact wpIn_label (ih _ _ _ h a hf hk)
      | seq x y => exact wpIn_seq_k' (ih _ _ _ h a hf hk)
      | region id ops draw =>
        simp only at h
        split at h
        · have := ih _ _ _ h a hf hk
          refine wpIn_region_list ?_
          simpa [sem] using this
        · split at h
          · rename_i hb
            simp only [Bool.and_eq_true] at hb
            obtain ⟨⟨⟨hd, hdf⟩, hsel⟩, hb⟩ := hb
            have h := h _ rfl
            have ht : TailWaits .any ops (F.tail id) ∧ F.tail id ≤ ops.size := by
              rw [Bool.or_eq_true] at hb
              rcases hb with hb | hb
              · have := Nat.eq_of_beq_eq_true hb
                exact ⟨tailWaits_none this, by omega⟩
              · simp only [Bool.and_eq_true] at hb
                have : F.tail id < ops.size := by simpa using hb.1.1
                exact ⟨tailWaits_of hb.1.2 hb.2 this, by omega⟩
            have inv : HeadInv .any ops (F.tail id) (Array.replicate ops.size false) :=
              ⟨by simp, fun j oj _ hl => (by rw [getD_replicate_false] at hl; cases hl), fun t _ ht => getD_in (by simpa using ht) (getD_replicate_false _ _)⟩
            have hh := drw_sound (r := r) (Q := mkQ (LvF F r w0 Q) (sem r F.P (LvF F r w0 Q) k)) hd hdf hsel ht.1 (fun c a w => Iff.rfl) _ _ _ _ a hk rfl (Ext.refl _) inv h
            refine wpIn_region_any hm ?_
            have hA := wpAny_of_hd' (g := ops.size - F.tail id) (fun listed a' w' hE hL => by
              obtain ⟨h1, h2, hdd, L, hk, hK⟩ := hL
              have hl : (ops.toList.drop (F.tail id)).length = ops.size - F.tail id := by simp
              rw [← hl]
              refine wpAnyIn_of_seq (ops := ops) _ (F.tail id) _ _ _ (by intro j; simp) (by rw [hl]; exact h2) ?_
              have := ih _ _ _ hK a' (hf.step ((Keeps.drew w).trans (Ext.keeps hE)) hdd) hk
              simpa [sem] using this) _ _ _ _ (Ext.refl _) hh
            rwa [show F.tail id + (ops.size - F.tail id) = ops.size by omega] at hA
          · exact h.elim
      | cond c x y =>
        replace h := onE_elim h
        obtain ⟨v, hv, h⟩ := h
        split at h
        · refine wpIn_cond_split (hk.ev hv) (fun e => ?_) (fun e => ?_)
          · subst e; exact ih _ _ _ h a hf hk
          · subst e; exact ih _ _ _ h a hf hk
        · exact h.elim
      | block id b =>
        refine wpIn_block (wpIn_mono (ih _ _ _ h a hf hk) ?_)
        intro e a w hq
        cases e with
        | exit id' =>
          simp only [mkQ, sem] at hq
          simp only [Exit.inBlock]
          by_cases e : id' = id
          · subst e
            rw [if_pos rfl]
            simpa [mkQ] using hq
          · rw [if_neg e]
            have : Nat.beq id id' = false := by
              cases hb : Nat.beq id id' with
              | false => rfl
              | true => exact absurd (Nat.eq_of_beq_eq_true hb).symm e
            rw [this] at hq
            exact hq
        | _ => exact hq
      | exit id =>
        refine wpIn_exit ?_
        show match (sem r F.P (LvF F r w0 Q) k).2 id with | some p => p a w | none => _
        rw [sem_popTo]
        simp only at h
        split at h
        · rename_i k' hp
          rw [hp]
          exact ih _ _ _ h a hf hk
        · rename_i hp
          rw [hp]
          exact ⟨hf, h⟩
      | ret => exact wpIn_ret (retF hf hk h)
      | loop b =>
        replace h := onE_elim h
        obtain ⟨vs, hv, h⟩ := h
        exact h r w0 a hrn hf (hk.weak (picks_sub hv))
      | rangeFunc f ps x y =>
        simp only at h
        split at h
        · exact h.elim
        · replace h := onE_elim h
          obtain ⟨vs, hv, h⟩ := h
          exact h r w0 a hrn hf (hk.weak (picks_sub hv))
      | _ => exact h.elim
end

/-! ### Loops and functions -/
theorem least {p : Nat → Prop} (h : ∃ n, p n) : ∃ n, p n ∧ ∀ m, p m → n ≤ m := by
  obtain ⟨n, hn⟩ := h
  induction n using Nat.strongRecOn with
  | _ n ih =>
    by_cases hx : ∃ m, m < n ∧ p m
    · obtain ⟨m, hm, hp⟩ := hx; exact ih m hm hp
    · exact ⟨n, hn, fun m hm => Nat.le_of_not_lt fun hl => hx ⟨m, hl, hm⟩⟩
theorem wpIn_loop_rel {α : Type} {F : Fence} {n : Nat} {P : Program} {c : Code} {Q : Exit → Act → World → Prop} (I : α → Act → World → Prop) (μ : α → World → Nat) {x : α} {a : Act} {w : World} (h₀ : I x a w)
    (round : ∀ x a w, I x a w → c.wpIn F n P (Exit.then (fun a' w' => ∃ y, I y a' w' ∧ μ y w' < μ x w) Q) a w) : (Code.loop c).wpIn F n P Q a w := by
  have hL : ∀ a w, (∃ x, I x a w) → ∃ m, (∃ x, I x a w ∧ μ x w = m) ∧ ∀ m', (∃ x, I x a w ∧ μ x w = m') → m ≤ m' := fun a w ⟨x, hx⟩ => least ⟨_, x, hx, rfl⟩
  have hM : ∃ M : Act → World → Nat, ∀ a w, (∃ x, I x a w) → (∃ x, I x a w ∧ μ x w = M a w) ∧ ∀ m', (∃ x, I x a w ∧ μ x w = m') → M a w ≤ m' := by
    refine ⟨fun a w => Classical.epsilon fun m => (∃ x, I x a w) → (∃ x, I x a w ∧ μ x w = m) ∧ ∀ m', (∃ x, I x a w ∧ μ x w = m') → m ≤ m', fun a w => ?_⟩
    refine Classical.epsilon_spec (p := fun m => (∃ x, I x a w) → (∃ x, I x a w ∧ μ x w = m) ∧ ∀ m', (∃ x, I x a w ∧ μ x w = m') → m ≤ m') ?_
    by_cases hx : ∃ x, I x a w
    · obtain ⟨m, hm⟩ := hL a w hx; exact ⟨m, fun _ => hm⟩
    · exact ⟨0, fun h => absurd h hx⟩
  obtain ⟨M, hM⟩ := hM
  refine wpIn_loop (fun a w => ∃ x, I x a w) M ⟨x, h₀⟩ fun a w hI => ?_
  obtain ⟨⟨x, hx, he⟩, _⟩ := hM a w hI
  refine wpIn_mono (round x a w hx) ?_
  intro e a' w' hq
  cases e with
  | normal =>
    obtain ⟨y, hy, hlt⟩ := hq
    refine ⟨⟨y, hy⟩, ?_⟩
    have := (hM a' w' ⟨y, hy⟩).2 _ ⟨y, hy, rfl⟩
    omega
  | _ => exact hq
def findS : Code → List It → Nat → Option (List It)
  | .block i b, k, id => match Nat.beq i id with
    | true => (match b with | .loop body => some (.code (.loop body) :: .blk i :: k) | .rangeFunc f ps x y => some (.code (.rangeFunc f ps x y) :: .blk i :: k) | b => findS b (.blk i :: k) id)
    | false => findS b (.blk i :: k) id
  | .seq a b, k, id => match findS a (.code b :: k) id with | some s => some s | none => findS b k id
  | .cond _ x y, k, id => match findS x k id with | some s => some s | none => findS y k id
  | .loop b, k, id => findS b (.again (nearest k) :: k) id
  | .rangeFunc _ _ _ b, _, id => findS b [.fin] id
  | _, _, _ => none
/-- The stack at the head of a loop. -/
def hd (F : FD) (i : Nat) : List It := match findS F.code [] i with | some s => s | none => []
def noAgain (i : Nat) : List It → Bool
  | [] => true
  | .again j :: k => (match Nat.beq j i with | true => false | false => noAgain i k)
  | _ :: k => noAgain i k
theorem sem_congr {r : Option Nat} {P : Program} {V V' : Lv} {i : Nat} (h1 : V.ret = V'.ret) (h2 : V.fin = V'.fin) (h3 : V.out = V'.out) (h : ∀ j, j ≠ i → V.again j = V'.again j) : ∀ k, noAgain i k = true → sem r P V k = sem r P V' k
  | [], _ => by simp only [sem, h1]
  | .blk b :: k, hk => by simp only [sem, sem_congr h1 h2 h3 h k hk]
  | .code c :: k, hk => by
    have := sem_congr (r := r) (P := P) h1 h2 h3 h k hk
    have e : mkQ V (sem r P V k) = mkQ V' (sem r P V' k) := by rw [this]; funext e a w; cases e <;> simp only [mkQ, h1, h3]
    simp only [sem, e]
    rw [this]
  | .ops all l :: k, hk => by
    have := sem_congr (r := r) (P := P) h1 h2 h3 h k hk
    have e : mkQ V (sem r P V k) = mkQ V' (sem r P V' k) := by rw [this]; funext e a w; cases e <;> simp only [mkQ, h1, h3]
    simp only [sem, e]
    rw [this]
  | .fin :: k, hk => by simp only [sem, sem_congr h1 h2 h3 h k hk, h2]
  | .again j :: k, hk => by
    simp only [noAgain] at hk
    split at hk
    · cases hk
    · rename_i hb
      have hj : j ≠ i := by intro e; subst e; simp at hb
      simp only [sem, sem_congr h1 h2 h3 h k hk, h j hj]
def isLoop (i : Nat) : List It → Bool | .code (.loop _) :: k => noAgain i k | _ => false
def bodyS (s : List It) (i : Nat) : List It := match s with | .code (.loop b) :: k => .code b :: .again i :: k | _ => []
/-- From a loop's head into its body. -/
def S (F : FD) (i : Nat) (vs : List Value) (w : World) (Q : Post) : Prop := vcs F 100000 (bodyS (hd F i) i) (zipE (F.live i) vs) w Q
def setA (Q : Post) (i : Nat) (A : List Value → World → Prop) : Post := fun e vs w => match e with | .ret => Q .ret vs w | .fin => Q .fin vs w | .rret => Q .rret vs w | .out id => Q (.out id) vs w | .again j => match Nat.beq j i with | true => A vs w | false => Q (.again j) vs w
theorem J_loop {F : FD} (hm : F.P.follows .mixedOrders = true) {i : Nat} {vs : List Value} {w : World} {Q : Post} (hl : isLoop i (hd F i) = true) {α : Type} (vals : α → List Value) (I : α → World → Prop) (μ : α → World → Nat) (x0 : α) (hv : vs = vals x0) (h0 : I x0 w)
    (hr : ∀ x w, I x w → S F i (vals x) w (setA Q i fun vs' w' => ∃ y, vs' = vals y ∧ I y w' ∧ μ y w' < μ x w)) : J F (hd F i) i vs w Q := by
  subst hv
  unfold S at hr
  generalize hd F i = s at *
  match s, hl with
  | .code (.loop c) :: k, hl =>
    intro r w0 a hrn hf hk
    have hn : noAgain i k = true := hl
    exact wpIn_loop_rel (Q := mkQ (LvF F r w0 Q) (sem r F.P (LvF F r w0 Q) k)) (fun (x : α) a w => I x w ∧ Fr r F.ng w0 a w ∧ Kn F.nt a (zipE (F.live i) (vals x))) μ ⟨h0, hf, hk⟩ (by
      rintro x a w ⟨hI, hf, hk⟩
      have h1 := vcs_sound (F := F) (Q := setA Q i fun vs' w' => ∃ y, vs' = vals y ∧ I y w' ∧ μ y w' < μ x w) hm hrn _ _ _ _ (hr x w hI) a hf hk
      refine wpIn_mono h1 ?_
      have hA : sem r F.P (LvF F r w0 (setA Q i fun vs' w' => ∃ y, vs' = vals y ∧ I y w' ∧ μ y w' < μ x w)) k = sem r F.P (LvF F r w0 Q) k := by
        refine sem_congr ?_ ?_ ?_ ?_ k hn
        · simp only [LvF, setA]
        · simp only [LvF, setA]
        · simp only [LvF, setA]
        · intro j hj
          have : Nat.beq j i = false := by
            cases hb : Nat.beq j i with
            | false => rfl
            | true => exact absurd (Nat.eq_of_beq_eq_true hb) hj
          simp only [LvF, setA, this]
      intro e a' w' hq
      cases e with
      | normal =>
        obtain ⟨hf', vs', hk', hq⟩ := hq
        simp only [setA, Nat.beq_refl] at hq
        obtain ⟨y, rfl, hI', hlt⟩ := hq
        exact ⟨y, ⟨hI', hf', hk'⟩, hlt⟩
      | exit id =>
        simp only [mkQ, sem] at hq
        show match (sem r F.P (LvF F r w0 Q) k).2 id with | some p => p a' w' | none => (LvF F r w0 Q).out id a' w'
        rw [← hA]
        exact hq
      | ret => exact hq
      | _ => exact hq.elim)
/-- A type's zero value, in cells. -/
def zc (P : Program) (t : TypeId) : Array Value := match zeroT P t with | some z => z.cells | none => #[]
/-- Where the function's own text begins. -/
def S0 (F : FD) (n : Nat) (args : List Value) (w : World) (Q : Post) : Prop := vcs F 100000 [.code F.code] (zipE (List.range n) args) w Q
def retQ (R : Value → World → Prop) : Post := fun e vs w => match e, vs with | .ret, [v] => R v w | _, _ => False
theorem look_range {vs : List Value} : ∀ (i : Nat) (is : List Nat), (∀ j, j < is.length → is[j]? = some (i + j)) → is.length = vs.length → ∀ t v, look (zipE is vs) t = some v → i ≤ t ∧ vs[t - i]? = some v := by
  induction vs with
  | nil => intro i is _ hl t v h; cases is <;> simp [zipE, look] at h
  | cons u us ih =>
    intro i is hi hl t v h
    cases is with
    | nil => simp at hl
    | cons j js =>
      have h0 := hi 0 (by simp)
      simp at h0
      subst h0
      rw [zipE, look_cons] at h
      by_cases e : j = t
      · subst e; rw [if_pos rfl] at h; cases h; simp
      · rw [if_neg e] at h
        obtain ⟨h1, h2⟩ := ih (j + 1) js (fun m hm => by have := hi (m + 1) (by simp; omega); simp at this; rw [this]; congr 1; omega) (by simpa using hl) t v h
        refine ⟨by omega, ?_⟩
        have : t - j = (t - (j + 1)) + 1 := by omega
        rw [this]; simpa using h2
/-- Blocks that hold no cells, from B on, may have turned; all else is as it was; new blocks may have come. -/
structure Turn (B : Nat) (w w' : World) : Prop where
  os : w'.os = w.os
  tape : w'.tape = w.tape
  output : w'.output = w.output
  size : w.heap.size ≤ w'.heap.size
  block : ∀ k, k < w.heap.size → (k < B ∨ ∃ o : Obj, w.heap[k]? = some o ∧ o.isCells = true) → w'.heap[k]? = w.heap[k]?
theorem Turn.refl (B : Nat) (w : World) : Turn B w w := ⟨rfl, rfl, rfl, Nat.le_refl _, fun _ _ _ => rfl⟩
theorem Turn.trans {B : Nat} {a b c : World} (h : Turn B a b) (k : Turn B b c) : Turn B a c := by
  refine ⟨k.os.trans h.os, k.tape.trans h.tape, k.output.trans h.output, Nat.le_trans h.size k.size, fun i hi hx => ?_⟩
  have h1 := h.block i hi hx
  refine (k.block i (Nat.lt_of_lt_of_le hi h.size) ?_).trans h1
  rcases hx with hx | ⟨o, ho, hc⟩
  · exact .inl hx
  · exact .inr ⟨o, h1.trans ho, hc⟩
theorem Ext.turn {w w' : World} (h : Ext w w') (B : Nat) : Turn B w w' := ⟨h.os, h.tape, h.output, h.size, fun k hk _ => h.block k hk⟩
theorem Turn.putObj {B : Nat} {w : World} {l : Nat} {o : Obj} (o' : Obj) (hB : B ≤ l) (h : w.heap[l]? = some o) (ho : o.isCells = false) : Turn B w (w.putObj l o') := by
  refine ⟨rfl, rfl, rfl, by simp, fun k hk hx => World.putObj_heap_other fun e => ?_⟩
  subst e
  rcases hx with hx | ⟨o2, h2, hc⟩
  · omega
  · rw [h] at h2; cases h2; rw [ho] at hc; cases hc
theorem cellsObj {w : World} {p : Addr} {v : Value} (h : w.cell? p = some v) : ∃ o : Obj, w.heap[p.block]? = some o ∧ o.isCells = true := by
  unfold World.cell? at h
  cases ho : w.heap[p.block]? with
  | none => simp [ho] at h
  | some o => exact ⟨o, rfl, by cases o <;> simp_all [Obj.isCells]⟩
theorem Turn.cell {B : Nat} {w w' : World} (h : Turn B w w') {p : Addr} {v : Value} (hc : w.cell? p = some v) : w'.cell? p = some v :=
  (World.cell?_of_block (h.block _ (World.block_lt_of_cell? w p hc) (.inr (cellsObj hc)))).trans hc
theorem Turn.sameC {B : Nat} {w w' : World} (h : Turn B w w') : SameC w w' := fun _ _ hc => h.cell hc
theorem Turn.ext {B : Nat} {w0 w w' : World} (h : Turn B w w') (he : Ext w0 w) (hB : w0.heap.size ≤ B) : Ext w0 w' :=
  ⟨h.os.trans he.os, h.tape.trans he.tape, h.output.trans he.output, Nat.le_trans he.size h.size, fun k hk => (h.block k (Nat.lt_of_lt_of_le hk he.size) (.inl (by omega))).trans (he.block k hk)⟩
theorem Turn.keeps {B : Nat} {w0 w w' : World} (h : Turn B w w') (he : Keeps w0 w) (hB : w0.heap.size ≤ B) : Keeps w0 w' :=
  ⟨Nat.le_trans he.size h.size, fun k o hk ho => by
    have h1 := he.same k o hk ho
    have h2 := (Array.getElem?_eq_some_iff.1 hk).1
    exact (h.block k (Array.getElem?_eq_some_iff.1 h1).1 (.inl (by omega))).trans h1⟩
theorem leaves_marks {P : Program} {fn : Func} {tmps : Array Value} {R : Ending → World → Prop} {v : Value} {B : Nat} : ∀ (Ds : List Nat) (w : World), Ds.Nodup → (∀ D ∈ Ds, B ≤ D ∧ w.heap[D]? = some (.deferred (some []))) →
    (∀ w', Turn B w w' → (results fn tmps).run P w' = .ok v w' ∧ R (.returned v) w') → LeavesInM Fence.wide 0 P fn tmps R (Ds.map mark) .returning w
  | [], w, _, _, h => ⟨v, (h w (Turn.refl _ _)).1, (h w (Turn.refl _ _)).2⟩
  | D :: Ds, w, hnd, hD, h => by
    have h1 := hD D (List.mem_cons_self ..)
    have ht : Turn B w (w.putObj D (.deferred none)) := Turn.putObj _ h1.1 h1.2 rfl
    refine ⟨by simp, .inl ⟨D, _, rfl, run_takeDeferred h1.2, leaves_marks Ds _ (List.nodup_cons.1 hnd).2 (fun D' hD' => ?_) (fun w' hw' => h w' (ht.trans hw'))⟩⟩
    have h2 := hD D' (List.mem_cons_of_mem _ hD')
    refine ⟨h2.1, (World.putObj_heap_other ?_).trans h2.2⟩
    intro e
    subst e
    exact (List.nodup_cons.1 hnd).1 hD'
theorem Fn_any {F : FD} {fn : Func} {args : List Value} {w : World} {R : Value → World → Prop} (hm : F.P.follows .mixedOrders = true) (hf : F.P.funcs[F.f]? = some fn) (hb : fn.body = some F.code)
    (hnm : (fn.name == "runtime.NumGoroutine") = false) (hnt : fn.ntmps = F.nt) (hres : fn.results.toList = F.res) (hle : Nat.ble args.length F.nt = true) (hrn : F.rnd = false)
    (hR : F.ng = true ∨ ∀ v w1 w2, R v w1 → Turn w.heap.size w1 w2 → R v w2) (h : S0 F args.length args w (retQ R)) : Fn F.P F.f args w R := by
  refine ⟨enters_of hf hb hnm, (callsIn_wide (n := 0)).1 (callsIn_of_wp_marks hf hb trivial ?_)⟩
  have hk : Kn F.nt { tmps := args.toArray ++ Array.replicate (fn.ntmps - args.toArray.size) undef, defers := [] } (zipE (List.range args.length) args) := by
    have hle := Nat.le_of_ble_eq_true hle
    refine ⟨by simp [hnt]; omega, fun t v ht => ?_⟩
    obtain ⟨_, h2⟩ := look_range 0 (List.range args.length) (by intro j hj; simp at hj; simp [hj]) (by simp) t v ht
    simp only [Nat.sub_zero] at h2
    have hlt : t < args.length := by
      rcases Nat.lt_or_ge t args.length with h | h
      · exact h
      · rw [List.getElem?_eq_none h] at h2; cases h2
    rw [Array.getElem?_append_left (by simpa using hlt)]
    simpa using h2
  have hfr : Fr none F.ng w { tmps := args.toArray ++ Array.replicate (fn.ntmps - args.toArray.size) undef, defers := [] } w :=
    ⟨Keeps.refl w, fun l hl => (by cases hl), [], rfl, fun _ hD => (by cases hD), fun _ => rfl, List.nodup_nil⟩
  have h2 := vcs_sound (F := F) (Q := retQ R) hm (by rw [hrn]; rfl) _ _ _ _ h _ hfr hk
  have key : ∀ (a : Act) (w' : World), (LvF F none w (retQ R)).ret a w' → LeavesInM Fence.wide 0 F.P fn a.tmps (fun e w' => ∃ v, e = .returned v ∧ R v w' ∧ Keeps w w') a.defers .returning w' := by
    rintro a w' ⟨hfr, hq⟩
    rw [hrn] at hq
    obtain ⟨v, hv, hRv⟩ := hq
    obtain ⟨Ds, hd, hD, hng, hnd⟩ := hfr.defs
    rcases hR with hng' | hR
    · have e := hng hng'
      subst e
      rw [hd]
      exact ⟨v, hv fn hres w' (fun _ _ h => h), v, rfl, hRv, hfr.keep⟩
    · rw [hd]
      refine leaves_marks (v := v) (B := w.heap.size) Ds w' hnd hD ?_
      intro w2 ht
      exact ⟨hv fn hres w2 ht.sameC, v, rfl, hR v w' w2 hRv ht, ht.keeps hfr.keep (Nat.le_refl _)⟩
  refine wpIn_mono (h2 : F.code.wpIn Fence.wide 0 F.P (mkQ _ _) _ w) ?_
  intro e a w' hq
  cases e with
  | normal => exact key a w' hq
  | ret => exact key a w' hq
  | exit id => exact hq.2.elim
  | _ => exact hq.elim
theorem Fn_of {F : FD} {fn : Func} {args : List Value} {w : World} {R : Value → World → Prop} (hm : F.P.follows .mixedOrders = true) (hf : F.P.funcs[F.f]? = some fn) (hb : fn.body = some F.code)
    (hnm : (fn.name == "runtime.NumGoroutine") = false) (hnt : fn.ntmps = F.nt) (hres : fn.results.toList = F.res) (hle : Nat.ble args.length F.nt = true) (hrn : F.rnd = false) (hng : F.ng = true)
    (h : S0 F args.length args w (retQ R)) : Fn F.P F.f args w R := Fn_any hm hf hb hnm hnt hres hle hrn (.inl hng) h
/-- A function that holds loops over functions: what is said of its end must not mind book-keeping. -/
def Holds (B : Nat) (R : Value → World → Prop) : Prop := ∀ v w1 w2, R v w1 → Turn B w1 w2 → R v w2
theorem FnT_of {F : FD} {fn : Func} {args : List Value} {w : World} {R : Value → World → Prop} (hm : F.P.follows .mixedOrders = true) (hf : F.P.funcs[F.f]? = some fn) (hb : fn.body = some F.code)
    (hnm : (fn.name == "runtime.NumGoroutine") = false) (hnt : fn.ntmps = F.nt) (hres : fn.results.toList = F.res) (hle : Nat.ble args.length F.nt = true) (hrn : F.rnd = false) (hR : Holds w.heap.size R)
    (h : S0 F args.length args w (retQ R)) : Fn F.P F.f args w R := Fn_any hm hf hb hnm hnt hres hle hrn (.inr hR) h

/-! ### Loops over functions -/
def asgL (nt : Nat) : List Oper → Env → Option Env
  | [], L => some L
  | o :: l, L => match o.guard, o.op, dstOk nt o.dst with
    | none, .assign x, true => (match ev L x with | some v => asgL nt l (putE o.dst v L) | none => none)
    | _, _, _ => none
/-- The assignment to the loop's variables, where it boxes nothing. -/
def asgE (nt : Nat) : Code → Env → Option Env
  | .skip, L => some L
  | .region _ ops false, L => asgL nt ops.toList L
  | _, _ => none
theorem asgL_sound {r : Option Nat} {P : Program} {nt : Nat} {all : Array Oper} {K : Act → World → Prop} : ∀ (l : List Oper) (L L' : Env) (a : Act) (w : World), asgL nt l L = some L' → Kn nt a L →
    (∀ a', Kn nt a' L' → a'.defers = a.defers → K a' w) → wpListIn (fc r) 0 P all (Exit.then K (fun _ _ _ => False)) l a w
  | [], L, L', a, w, h, hk, hK => by cases h; exact hK a hk rfl
  | o :: l, L, L', a, w, h, hk, hK => by
    unfold asgL at h
    split at h
    · rename_i x hg ho hd
      split at h
      · rename_i v hv
        unfold wpListIn
        have hw : Region.wanted o (yielded all a.tmps) = true := by simp [Region.wanted, hg]
        simp only [hw, if_true]
        refine wp_val (v := v) (w' := w) ?_ (by intro c hc; rw [ho] at hc; cases hc) ?_
        · simp [execOp, ho, hk.ev hv]
        · exact asgL_sound l _ _ _ w h (hk.put hd v) (fun a' ha' hd' => hK a' ha' (hd'.trans (put_defers _ _ _)))
      · cases h
    · cases h
theorem asgE_sound {r : Option Nat} {P : Program} {nt : Nat} {c : Code} {L L' : Env} {K : Act → World → Prop} {a : Act} {w : World} (h : asgE nt c L = some L') (hk : Kn nt a L) (hK : ∀ a', Kn nt a' L' → a'.defers = a.defers → K a' w) :
    c.wpIn (fc r) 0 P (Exit.then K (fun _ _ _ => False)) a w := by
  unfold asgE at h
  split at h
  · cases h; exact wpIn_skip (hK a hk rfl)
  · exact wpIn_region_list (asgL_sound _ _ _ _ _ h hk hK)
  · cases h
def envR : List Nat → List Value → Env → Env
  | p :: ps, v :: vs, L => envR ps vs ((p, v) :: L)
  | _, _, L => L
def allLt (nt : Nat) (l : List Nat) : Bool := l.all fun p => Nat.blt p nt
theorem Kn.set {n : Nat} {a : Act} {L : Env} (h : Kn n a L) {p : Nat} (hp : p < n) (v : Value) : Kn n { a with tmps := a.tmps.setIfInBounds p v } ((p, v) :: L) :=
  h.put (dst := some p) (by simpa [dstOk] using hp) v
theorem Kn.params {n : Nat} : ∀ (ps : List Nat) (vs : List Value) (a : Act) (L : Env), Kn n a L → allLt n ps = true → ps.length = vs.length →
    Kn n { a with tmps := (ps.zip vs).foldl (fun t (p, v) => t.setIfInBounds p v) a.tmps } (envR ps vs L)
  | [], [], a, L, h, _, _ => h
  | p :: ps, v :: vs, a, L, h, hp, hl => by
    simp only [allLt, List.all_cons, Bool.and_eq_true] at hp
    have h1 := h.set (by simpa using hp.1) v
    exact Kn.params ps vs _ _ h1 hp.2 (by simpa using hl)
/-- From a round's beginning into its body, at these values of the loop's variables. -/
def Rr (F : FD) (i : Nat) (vs es : List Value) (w : World) (Q : Post) : Prop :=
  match hd F i with
  | .code (.rangeFunc _ ps x y) :: _ => onE (asgE F.nt x (envR ps.toList es (zipE (F.live i) vs))) fun L => vcs F.inR 100000 [.code y, .fin] L w Q
  | _ => False
/-- Behind a loop over a function; and where one of its rounds has left the function, or a statement around the loop. -/
def Rd (F : FD) (i : Nat) (vs : List Value) (w : World) (Q : Post) : Prop := match hd F i with | _ :: k => vcs F 100000 k (zipE (F.live i) vs) w Q | _ => False
def Rx (F : FD) (i : Nat) (vs : List Value) (w : World) (Q : Post) : Prop := match hd F i with | _ :: k => vcs F 100000 (.code .ret :: k) (zipE (F.live i) vs) w Q | _ => False
def Ro (F : FD) (i id : Nat) (vs : List Value) (w : World) (Q : Post) : Prop := match hd F i with | _ :: k => vcs F 100000 (.code (.exit id) :: k) (zipE (F.live i) vs) w Q | _ => False
def rndQ (I Xr : World → Prop) (Xo : Nat → World → Prop) : Post := fun e _ w => match e with | .fin => I w | .rret => Xr w | .out id => Xo id w | _ => False
/-- An iterator gives xs, one after another, till a round says that it wants no more. Rl: what it may do to memory between two rounds. -/
def Iter (P : Program) (g : FuncId) (lb : List Value) {α : Type} (enc : α → List Value) (xs : List α) (w : World) (Rl : World → World → Prop) (I : List α → World → Prop) : Prop :=
  ∀ (l : Nat) (Jv Jx : List α → World → Prop) (W : World), Ext w W → (∀ pre W, Jv pre W → I pre W) → (∀ pre W W', Jv pre W → Rl W W' → Jv pre W') → (∀ pre W W', Jx pre W → Rl W W' → Jx pre W') →
    (∀ pre x W1, pre ++ [x] <+: xs → Jv pre W1 → Yd P l (enc x) W1 fun v W2 => (v = .bool true ∧ Jv (pre ++ [x]) W2) ∨ (v = .bool false ∧ Jx (pre ++ [x]) W2)) →
    Jv [] W → Fn P g (.func (.yield l) #[] #[] :: lb) W fun _ W' => Jv xs W' ∨ ∃ pre, Jx pre W'
def isRange (i : Nat) (g : Operand) (nt np : Nat) : List It → Bool
  | .code (.rangeFunc g' ps _ _) :: _ => (match g, g' with | .tmp a, .tmp b => Nat.beq a b | _, _ => false) && allLt nt ps.toList && Nat.beq ps.size np
  | _ => false
/-- It reads cells, and blocks below B, alone. -/
def Own (B : Nat) (I : World → Prop) : Prop := ∀ W W', I W → Turn B W W' → I W'
theorem Own.and {B : Nat} {I J : World → Prop} (h : Own B I) (k : Own B J) : Own B fun W => I W ∧ J W := fun W W' h1 ht => ⟨h W W' h1.1 ht, k W W' h1.2 ht⟩
theorem Own.pure {B : Nat} (p : Prop) : Own B fun _ => p := fun _ _ h _ => h
theorem Own.ext {B : Nat} {w0 : World} (h : w0.heap.size ≤ B) : Own B fun W => Ext w0 W := fun _ _ h1 ht => ht.ext h1 h
theorem Own.cell {B : Nat} (p : Addr) (v : Value) : Own B fun W => W.cell? p = some v := fun _ _ h1 ht => ht.cell h1
theorem Own.ex {B : Nat} {α : Type} {I : α → World → Prop} (h : ∀ x, Own B (I x)) : Own B fun W => ∃ x, I x W := fun W W' ⟨x, hx⟩ ht => ⟨x, h x W W' hx ht⟩
theorem Own.false {B : Nat} : Own B fun _ => False := fun _ _ h _ => h

def recd (fn : FuncId) (tmps : Array Value) (ps : Array Tmp) (asg body : Code) (dd : Nat) (st : LoopState) (pe : Option Code) : Loop :=
  { state := st, pending := pe, fn, tmps, params := ps, assign := asg, body, defers := dd }
theorem run_enter {P : Program} {fn : FuncId} {tmps : Array Value} {ps : Array Tmp} {asg body : Code} {r : Option Nat} {w : World} (hr : ∀ l, r = some l → ∃ q, w.heap[l]? = some (.loop q) ∧ q.state = .busy) :
    ∃ (l dd : Nat) (Ds : List Nat) (W1 : World), (Instr.enterLoop fn tmps ps asg body r).run P w = .ok (l, Ds.map mark) W1 ∧ W1.heap[l]? = some (.loop (recd fn tmps ps asg body dd .ready none)) ∧ w.heap.size ≤ l ∧ Ext w W1 ∧
      (∀ D ∈ Ds, w.heap.size ≤ D ∧ D ≠ l ∧ W1.heap[D]? = some (.deferred (some []))) ∧ Ds.Nodup := by
  cases r with
  | none =>
    refine ⟨w.heap.size + 1, w.heap.size, [w.heap.size], _, run_enterLoop_outer _ _ _ _ _, ?_, by omega, (Ext.alloc _ _).trans (Ext.alloc _ _), ?_, by simp⟩
    · have := World.alloc_heap_new (w.alloc (.deferred (some []))) (.loop (recd fn tmps ps asg body w.heap.size .ready none))
      rwa [World.size_alloc] at this
    · intro D hD
      simp at hD
      subst hD
      exact ⟨Nat.le_refl _, by omega, (Below.heap_alloc _ _ _ (by simp)).trans (World.alloc_heap_new w _)⟩
  | some l0 =>
    obtain ⟨q, hq, _⟩ := hr l0 rfl
    refine ⟨w.heap.size, q.defers, [], _, run_enterLoop_inner hq _ _ _ _ _, World.alloc_heap_new w _, Nat.le_refl _, Ext.alloc _ _, fun D hD => (by cases hD), List.nodup_nil⟩

theorem J_range {F : FD} (hm : F.P.follows .mixedOrders = true) (hng : F.ng = false) {i : Nat} {vs : List Value} {w : World} {Q : Post} {t np : Nat} (hl : isRange i (.tmp t) F.nt np (hd F i) = true)
    {α : Type} (enc : α → List Value) (henc : ∀ x, (enc x).length = np) {gf : FuncId} {lb : List Value} (hg : look (zipE (F.live i) vs) t = some (.func (.func gf) #[] lb.toArray))
    (xs : List α) (Rl : World → World → Prop) (I : List α → World → Prop) (Xr : List α → World → Prop) (Xo : Nat → List α → World → Prop)
    (hI : ∀ pre, Own w.heap.size (I pre)) (hXr : ∀ pre, Own w.heap.size (Xr pre)) (hXo : ∀ id pre, Own w.heap.size (Xo id pre))
    (hRl : ∀ W W', Rl W W' → (∀ pre, I pre W → I pre W') ∧ (∀ pre, Xr pre W → Xr pre W') ∧ (∀ id pre, Xo id pre W → Xo id pre W') ∧ (∀ (k : Nat) (o : Obj), w.heap.size ≤ k → W.heap[k]? = some o → o.isCells = false → W'.heap[k]? = some o))
    (h0 : I [] w) (hit : Iter F.P gf lb enc xs w Rl I)
    (hbody : ∀ pre x w1, pre ++ [x] <+: xs → I pre w1 → w.heap.size ≤ w1.heap.size → Rr F i vs (enc x) w1 (rndQ (I (pre ++ [x])) (Xr (pre ++ [x])) (fun id => Xo id (pre ++ [x]))))
    (hdone : ∀ w1, I xs w1 → Rd F i vs w1 Q) (hret : ∀ pre w1, Xr pre w1 → Rx F i vs w1 Q) (hout : ∀ id pre w1, Xo id pre w1 → Ro F i id vs w1 Q) : J F (hd F i) i vs w Q := by
  unfold Rr at hbody
  unfold Rd at hdone
  unfold Rx at hret
  unfold Ro at hout
  generalize hd F i = s at *
  match s, hl with
  | .code (.rangeFunc g ps asg body) :: k, hl =>
    simp only [isRange, Bool.and_eq_true] at hl
    obtain ⟨⟨hgt, hlt⟩, hsz⟩ := hl
    have hsz : ps.size = np := Nat.eq_of_beq_eq_true hsz
    have hgt : g = .tmp t := by
      cases g with
      | tmp b => rw [Nat.eq_of_beq_eq_true (show Nat.beq t b = true from hgt)]
      | _ => cases hgt
    subst hgt
    intro r w0 a hrn hf hk
    have hev : a.eval (.tmp t) = .func (.func gf) #[] lb.toArray := hk.ev (x := .tmp t) hg
    refine wpIn_rangeFunc ?_
    intro fn _
    obtain ⟨l, dd, Ds, W1, hrun, hL1, hlw, hE1, hD1, hnd⟩ := run_enter (P := F.P) (fn := fn) (tmps := a.tmps) (ps := ps) (asg := asg) (body := body) hf.rcd
    obtain ⟨rec, hrec⟩ : ∃ rec, rec = recd fn a.tmps ps asg body dd := ⟨_, rfl⟩
    rw [← hrec] at hL1
    have stable : ∀ {W W' : World}, Rl W W' → ∀ {q : Loop}, W.heap[l]? = some (.loop q) → W'.heap[l]? = some (.loop q) := fun h _ hq => (hRl _ _ h).2.2.2 l _ hlw hq rfl
    have stableD : ∀ {W W' : World}, Rl W W' → (∀ D ∈ Ds, W.heap[D]? = some (.deferred (some []))) → (∀ D ∈ Ds, W'.heap[D]? = some (.deferred (some []))) := fun h hq D hD => (hRl _ _ h).2.2.2 D _ (hD1 D hD).1 (hq D hD) rfl
    have hF := hit l (fun pre W => I pre W ∧ W.heap[l]? = some (.loop (rec .ready none)) ∧ ∀ D ∈ Ds, W.heap[D]? = some (.deferred (some [])))
      (fun pre W => ∃ c : Code, ((c = .ret ∧ Xr pre W) ∨ (∃ id, c = .exit id ∧ Xo id pre W)) ∧ W.heap[l]? = some (.loop (rec .done (some c))) ∧ ∀ D ∈ Ds, W.heap[D]? = some (.deferred (some [])))
      W1 hE1 (fun pre W h => h.1) (fun pre W W' h hR => ⟨(hRl _ _ hR).1 pre h.1, stable hR h.2.1, stableD hR h.2.2⟩)
      (fun pre W W' h hR => by
        obtain ⟨c, hc, h1, h2⟩ := h
        refine ⟨c, ?_, stable hR h1, stableD hR h2⟩
        rcases hc with ⟨rfl, hc⟩ | ⟨id, rfl, hc⟩
        · exact .inl ⟨rfl, (hRl _ _ hR).2.1 pre hc⟩
        · exact .inr ⟨id, rfl, (hRl _ _ hR).2.2.1 id pre hc⟩) ?_ ⟨hI _ _ _ h0 (hE1.turn _), hL1, fun D hD => (hD1 D hD).2.2⟩
    · refine ⟨l, Ds.map mark, W1, { target := .fn (.func gf) lb.toArray, args := #[.func (.yield l) #[] #[]] }, W1, gf, (.func (.yield l) #[] #[] :: lb : List Value).toArray, W1, hrun, ?_, fun _ _ => trivial, ?_, (by intro h; cases h), ?_⟩
      · have hec : a.eval (.const (.func (.yield l) #[] #[])) = .func (.yield l) #[] #[] := rfl
        simp [resolve, hev, hec, Deferred.ofValue]
      · have := hF.enters (.func (.yield l) #[] #[] :: lb : List Value).toArray W1
        simp only [invoke]
        rw [show (#[.func (.yield l) #[] #[]] ++ lb.toArray : Array Value) = (.func (.yield l) #[] #[] :: lb : List Value).toArray by apply Array.toList_inj.1; simp]
        exact this
      · refine CallsIn.mono (F := fc r) ((callsIn_wide (n := 0 - 1)).2 hF.calls) ?_
        rintro e W2 ⟨v, rfl, hJ, hkp⟩
        have fin : ∀ (pe : Option Code) (st : LoopState), st ≠ .busy → W2.heap[l]? = some (.loop (rec st pe)) → (∀ D ∈ Ds, W2.heap[D]? = some (.deferred (some []))) → ∃ W4, (Instr.endLoop l).run F.P W2 = .ok pe W4 ∧ Turn w.heap.size W2 W4 ∧
            Fr r F.ng w0 { a with defers := Ds.map mark ++ a.defers } W4 := by
          intro pe st hst hq hDs
          have he := run_endLoop (P := F.P) hq (by rw [hrec]; exact hst)
          refine ⟨W2.putObj l (.loop { rec st pe with state := .exhausted }), by rw [he]; simp [hrec, recd], Turn.putObj _ hlw hq rfl, ?_⟩
          have hkw : Keeps w (W2.putObj l (.loop { rec st pe with state := .exhausted })) := (Turn.putObj _ hlw hq rfl : Turn w.heap.size W2 _).keeps (hE1.keeps.trans hkp) (Nat.le_refl _)
          obtain ⟨Ds0, e1, e2, _, e4⟩ := hf.defs
          have hold := hf.step hkw (a' := a) rfl
          obtain ⟨Ds0', e1', e2', _, e4'⟩ := hold.defs
          refine ⟨hold.keep, hold.rcd, Ds ++ Ds0', by simp [e1'], ?_, fun h => (by rw [hng] at h; cases h), ?_⟩
          · intro D hD
            rcases List.mem_append.1 hD with hD | hD
            · exact ⟨Nat.le_trans hf.keep.size (hD1 D hD).1, (World.putObj_heap_other (hD1 D hD).2.1).trans (hDs D hD)⟩
            · exact e2' D hD
          · refine List.nodup_append.2 ⟨hnd, e4', ?_⟩
            intro D hD D' hD' e
            subst e
            have : Ds0 = Ds0' := by
              have := e1.symm.trans e1'
              exact (List.map_inj_right (fun x y h => by simpa [mark] using h)).1 this
            subst this
            have h1 := (hD1 D hD).1
            have h2 := (Array.getElem?_eq_some_iff.1 (e2 D hD').2).1
            omega
        have hk' : Kn F.nt { a with defers := Ds.map mark ++ a.defers } (zipE (F.live i) vs) := ⟨hk.size, hk.at_⟩
        rcases hJ with ⟨hi, hq, hDs⟩ | ⟨pre, c, hc, hq, hDs⟩
        · obtain ⟨W4, he, ht, hfr⟩ := fin none .ready (by simp) hq hDs
          exact ⟨none, W4, he, vcs_sound (F := F) hm hrn _ _ _ _ (hdone W4 (hI _ _ _ hi ht)) _ hfr hk'⟩
        · obtain ⟨W4, he, ht, hfr⟩ := fin (some c) .done (by simp) hq hDs
          refine ⟨some c, W4, he, ?_⟩
          rcases hc with ⟨rfl, hc⟩ | ⟨id, rfl, hc⟩
          · exact vcs_sound (F := F) hm hrn _ _ _ _ (hret pre W4 (hXr _ _ _ hc ht)) _ hfr hk'
          · exact vcs_sound (F := F) hm hrn _ _ _ _ (hout id pre W4 (hXo _ _ _ _ hc ht)) _ hfr hk'
    · -- one round
      rintro pre x W hpre ⟨hi, hq, hDs⟩
      have hy := run_yield (P := F.P) (args := (enc x).toArray) hq (by rw [hrec]; simp [recd, henc, hsz])
      refine ⟨fn, _, asg, body, by rw [hy, hrec]; rfl, ?_⟩
      have hlW : l < W.heap.size := (Array.getElem?_eq_some_iff.1 hq).1
      have htb : Turn w.heap.size W (W.putObj l (.loop { rec .ready none with state := .busy })) := Turn.putObj _ hlw hq rfl
      have hb := hbody pre x _ hpre (hI _ _ _ hi htb) (by
        have := htb.size
        have := hE1.size
        simp; omega)
      replace hb := onE_elim hb
      obtain ⟨L', hL', hb⟩ := hb
      have hkp : Kn F.nt { tmps := (ps.zip (enc x).toArray).foldl (fun t (p, v) => t.setIfInBounds p v) (rec .ready none).tmps, defers := [] } (envR ps.toList (enc x) (zipE (F.live i) vs)) := by
        have h1 := hk.params ps.toList (enc x) a _ hlt (by simp [hsz, henc])
        have e : (ps.zip (enc x).toArray).foldl (fun t (p, v) => t.setIfInBounds p v) (rec .ready none).tmps = (ps.toList.zip (enc x)).foldl (fun t (p, v) => t.setIfInBounds p v) a.tmps := by
          rw [← Array.foldl_toList, Array.toList_zip, hrec]
          rfl
        rw [e]
        exact ⟨h1.size, h1.at_⟩
      have hbusy : (W.putObj l (.loop { rec .ready none with state := .busy })).heap[l]? = some (.loop { rec .ready none with state := .busy }) := World.putObj_heap_same hlW
      refine roundIn_of_wpIn (F := Fence.wide) (n := 0) trivial ?_
      rw [hrec] at hkp
      refine asgE_sound (r := some l) (P := F.P) hL' hkp ?_
      intro a1 hk1 hd1
      refine ⟨_, run_beginRound hq (by rw [hrec]; rfl), ?_⟩
      have hfr : Fr (some l) F.inR.ng (W.putObj l (.loop { rec .ready none with state := .busy })) a1 (W.putObj l (.loop { rec .ready none with state := .busy })) :=
        ⟨Keeps.refl _, fun l' hl' => by cases hl'; exact ⟨_, hbusy, rfl⟩, [], hd1, fun _ h => (by cases h), fun _ => rfl, List.nodup_nil⟩
      have hv := vcs_sound (F := F.inR) (r := some l) hm rfl _ _ _ _ hb a1 hfr hk1
      refine wpIn_mono (hv : body.wpIn (fc (some l)) 0 F.P _ _ _) ?_
      have fin : ∀ (jump : Option Code) (W3 : World) (a3 : Act), Fr (some l) F.inR.ng (W.putObj l (.loop { rec .ready none with state := .busy })) a3 W3 →
          ∃ W4, (Instr.endRound l jump).run F.P W3 = .ok (.bool jump.isNone) W4 ∧ Turn w.heap.size W3 W4 ∧ Keeps W W4 ∧ W4.heap[l]? = some (.loop (rec (if jump.isNone then .ready else .done) jump)) ∧ (∀ D ∈ Ds, W4.heap[D]? = some (.deferred (some []))) := by
        intro jump W3 a3 hfr
        have hq3 := hfr.keep.same l _ hbusy rfl
        refine ⟨_, run_endRound jump hq3, Turn.putObj _ hlw hq3 rfl, ?_, ?_, ?_⟩
        · refine ⟨?_, fun k o hko ho => ?_⟩
          · have := hfr.keep.size
            simp at this ⊢; omega
          · have hkl : k ≠ l := by
              intro e
              subst e
              rw [hq] at hko
              cases hko
              rw [hrec] at ho
              cases ho
            rw [World.putObj_heap_other hkl]
            exact hfr.keep.same k o ((World.putObj_heap_other hkl).trans hko) ho
        · rw [World.putObj_heap_same (Array.getElem?_eq_some_iff.1 hq3).1, hrec]; rfl
        · intro D hD
          rw [World.putObj_heap_other (hD1 D hD).2.1]
          exact hfr.keep.same D _ ((World.putObj_heap_other (hD1 D hD).2.1).trans (hDs D hD)) rfl
      rintro e a3 W3 hp
      cases e with
      | normal =>
        obtain ⟨hfr3, hi3⟩ := hp
        obtain ⟨W4, hr, ht, hkp4, hl4, hD4⟩ := fin none W3 a3 hfr3
        exact ⟨_, W4, hr, _, rfl, .inl ⟨rfl, hI _ _ _ hi3 ht, hl4, hD4⟩, hkp4⟩
      | ret =>
        obtain ⟨hfr3, hi3⟩ := hp
        obtain ⟨W4, hr, ht, hkp4, hl4, hD4⟩ := fin (some .ret) W3 a3 hfr3
        exact ⟨_, W4, hr, _, rfl, .inr ⟨rfl, .ret, .inl ⟨rfl, hXr _ _ _ hi3 ht⟩, hl4, hD4⟩, hkp4⟩
      | exit id =>
        obtain ⟨hfr3, hi3⟩ := hp
        obtain ⟨W4, hr, ht, hkp4, hl4, hD4⟩ := fin (some (.exit id)) W3 a3 hfr3
        exact ⟨_, W4, hr, _, rfl, .inr ⟨rfl, .exit id, .inr ⟨id, rfl, hXo _ _ _ _ hi3 ht⟩, hl4, hD4⟩, hkp4⟩
      | _ => exact hp.elim
/-- The same, for iterators that leave memory as it is. -/
theorem J_rangeE {F : FD} (hm : F.P.follows .mixedOrders = true) (hng : F.ng = false) {i : Nat} {vs : List Value} {w : World} {Q : Post} {t np : Nat} (hl : isRange i (.tmp t) F.nt np (hd F i) = true)
    {α : Type} (enc : α → List Value) (henc : ∀ x, (enc x).length = np) {gf : FuncId} {lb : List Value} (hg : look (zipE (F.live i) vs) t = some (.func (.func gf) #[] lb.toArray))
    (xs : List α) (I : List α → World → Prop) (Xr : List α → World → Prop) (Xo : Nat → List α → World → Prop)
    (hI : ∀ pre, Own w.heap.size (I pre)) (hXr : ∀ pre, Own w.heap.size (Xr pre)) (hXo : ∀ id pre, Own w.heap.size (Xo id pre))
    (h0 : I [] w) (hit : Iter F.P gf lb enc xs w Ext I)
    (hbody : ∀ pre x w1, pre ++ [x] <+: xs → I pre w1 → w.heap.size ≤ w1.heap.size → Rr F i vs (enc x) w1 (rndQ (I (pre ++ [x])) (Xr (pre ++ [x])) (fun id => Xo id (pre ++ [x]))))
    (hdone : ∀ w1, I xs w1 → Rd F i vs w1 Q) (hret : ∀ pre w1, Xr pre w1 → Rx F i vs w1 Q) (hout : ∀ id pre w1, Xo id pre w1 → Ro F i id vs w1 Q) : J F (hd F i) i vs w Q :=
  J_range hm hng hl enc henc hg xs Ext I Xr Xo hI hXr hXo (fun W W' hE => ⟨fun pre h => hI pre _ _ h (hE.turn _), fun pre h => hXr pre _ _ h (hE.turn _), fun id pre h => hXo id pre _ _ h (hE.turn _),
    fun k o _ hk _ => (hE.block k (Array.getElem?_eq_some_iff.1 hk).1).trans hk⟩) h0 hit hbody hdone hret hout
attribute [irreducible] S0 S J vcs Rr Rd Rx Ro
end Go.Proofs.Ythekpkamedjloaa
