/- Slices of slices of ints of a call's own. -/
import Derived.Test.YthekpkamedjloaaKw
namespace Go.Proofs.Ythekpkamedjloaa
open Go.RowKit

theorem OwnR.caps {w : World} {B : Nat} {e : TypeId} {a : Option Addr} {n c : Nat} {vs : List Value} (h : OwnR w B e a n c vs) : n ≤ c ∧ c ≤ 9223372036854775807 ∧ (a = none → c = 0) := by
  rcases h.2 with ⟨h', h2⟩ | ⟨g, cap, cur, h', hb, hg, hn, hm, _⟩
  · simp only [Value.slice.injEq] at h'
    refine ⟨by omega, by omega, fun _ => by omega⟩
  · simp only [Value.slice.injEq] at h'
    simp only [maxLen] at hm
    refine ⟨by omega, by omega, fun e => ?_⟩
    rw [h'.1] at e; cases e
theorem ints_set (xs : List Int) (i : Nat) (x : Int) : ints (xs.set i x) = (ints xs).set i (.int .i64 x) := by simp [ints, List.map_set]
theorem ilenR {w : World} {B : Nat} {e : TypeId} {a : Option Addr} {n c : Nat} {xs : List Int} (h : OwnR w B e a n c (ints xs)) : n = xs.length := by have := h.len; simpa using this.symm
def sls (hs : List (Option Addr × Nat)) (xss : List (List Int)) : List Value := List.zipWith (fun h xs => Value.slice h.1 xs.length h.2) hs xss
/-- a's block is not b's. -/
def offB (a b : Option Addr) : Prop := obl a = none ∨ obl a ≠ obl b
structure Own2 (W : World) (B : Nat) (eo ei : TypeId) (a : Option Addr) (n c : Nat) (hs : List (Option Addr × Nat)) (xss : List (List Int)) : Prop where
  row : OwnR W B eo a n c (sls hs xss)
  len : hs.length = xss.length
  each : ∀ i (h1 : i < hs.length) (h2 : i < xss.length), OwnR W B ei hs[i].1 xss[i].length hs[i].2 (ints xss[i])
  apart : ∀ h ∈ hs, offB h.1 a
  dist : hs.Pairwise fun x y => offB x.1 y.1
variable {W W' W0 : World} {B : Nat} {eo ei : TypeId} {a : Option Addr} {n c : Nat} {hs : List (Option Addr × Nat)} {xss : List (List Int)}
theorem Own2.ilen (h : Own2 W B eo ei a n c hs xss) : n = xss.length := by
  have h1 := h.row.len
  have h2 := h.len
  simp [sls] at h1
  omega
theorem Own2.ext (h : Own2 W B eo ei a n c hs xss) (hE : Ext W W') : Own2 W' B eo ei a n c hs xss :=
  ⟨h.row.ext hE, h.len, fun i h1 h2 => (h.each i h1 h2).ext hE, h.apart, h.dist⟩
theorem Own2.nil (W : World) (B : Nat) (eo ei : TypeId) : Own2 W B eo ei none 0 0 [] [] := ⟨OwnR.nil W B eo, rfl, fun i h1 => by simp at h1, fun h hh => by simp at hh, List.Pairwise.nil⟩
theorem Own2.lt (h : Own2 W B eo ei a n c hs xss) : ∀ x ∈ hs, ∀ k, obl x.1 = some k → B ≤ k ∧ k < W.heap.size := by
  intro x hx k hk
  obtain ⟨i, hi, rfl⟩ := List.getElem_of_mem hx
  exact (h.each i hi (by have := h.len; omega)).lt k hk
theorem Own2.keep {b : Option Nat} (h : Own2 W B eo ei a n c hs xss) (hg : Chg W W' b) (h1 : obl a = none ∨ obl a ≠ b) (h2 : ∀ x ∈ hs, obl x.1 = none ∨ obl x.1 ≠ b) : Own2 W' B eo ei a n c hs xss :=
  ⟨h.row.keep hg h1, h.len, fun i k1 k2 => (h.each i k1 k2).keep hg (h2 _ (List.getElem_mem k1)), h.apart, h.dist⟩
theorem Own2.ints2 (h : Own2 W B eo ei a n c hs xss) (hn : n ≤ 9223372036854775807) (hx : ∀ xs ∈ xss, xs.length ≤ 9223372036854775807) : Ints2 W a hs xss :=
  ⟨h.row.row, h.len, fun i h1 h2 => ⟨(h.each i h2 h1).ints (hx _ (List.getElem_mem h1)), (h.each i h2 h1).caps.1⟩, by have := h.ilen; omega⟩
theorem Own.own2 {B0 : Nat} (B : Nat) (eo ei : TypeId) (a : Option Addr) (n c : Nat) (hs : List (Option Addr × Nat)) (xss : List (List Int)) : Own B0 fun W => Own2 W B eo ei a n c hs xss := fun W W' h ht =>
  ⟨Own.row _ _ _ _ _ W W' h.row ht, h.len, fun i h1 h2 => Own.row _ _ _ _ _ W W' (h.each i h1 h2) ht, h.apart, h.dist⟩
theorem offB_old {k0 : Nat} {x y : Option Addr} (hx : ∀ k, obl x = some k → k < k0) (hy : ∀ k, obl y = some k → k0 ≤ k) : offB x y ∧ offB y x := by
  unfold offB
  cases h : obl x with
  | none => exact ⟨.inl rfl, by cases h' : obl y <;> simp⟩
  | some k =>
    have := hx k h
    cases h' : obl y with
    | none => exact ⟨.inr (by simp), .inl rfl⟩
    | some k' =>
      have := hy k' h'
      exact ⟨.inr (by simp; omega), .inr (by simp; omega)⟩
theorem Ext.trans' {w a b : World} {B : Nat} (h : Ext w a) (k : Below B a b) (hB : w.heap.size ≤ B) : Ext w b := Below.trans h (k.mono hB)
theorem Below.up {w : World} (h : Below B W W') (hE : Ext w W) (hB : w.heap.size ≤ B) : Ext w W' := Ext.trans' hE h hB
theorem OwnR.below {B0 : Nat} {e : TypeId} {b n c : Nat} {vs : List Value} (h : OwnR W B0 e (some (bl b)) n c vs) (hb : Below B W W') (hlt : b < B) : OwnR W' B0 e (some (bl b)) n c vs := by
  refine ⟨h.1, ?_⟩
  rcases h.2 with h' | ⟨g, cap, cur, h', hg0, hg, r⟩
  · exact .inl h'
  · refine .inr ⟨g, cap, cur, h', hg0, ?_, r⟩
    simp only [Value.slice.injEq] at h'
    have hgb : g = b := by have := h'.1; simp only [bl, Option.some.injEq, Addr.mk.injEq] at this; exact this.1.symm
    subst hgb
    rw [hb.block g hlt]
    exact hg
/-- out = append(out, l), l built since W0. -/
theorem Own2.push {P : Program} {t ty : TypeId} {z : Value} {by_ : Nat} {a2 : Option Addr} {m c2 : Nat} {ys : List Int} {k : Option Addr → Nat → World → Prop} (ht : SlT P t eo z by_) (h : Own2 W0 B eo ei a n c hs xss) (hB : B ≤ W0.heap.size) (hE : Ext W0 W)
    (hi : OwnR W W0.heap.size ei a2 m c2 (ints ys)) (hn : n < 4398046511104)
    (hk : ∀ a' c' W', Own2 W' B eo ei a' (n + 1) c' (hs ++ [(a2, c2)]) (xss ++ [ys]) → Below B W W' → k a' c' W') :
    newC W (.cells #[.slice a2 m c2] eo) fun b w1 => app P t t ty a n c (some (bl b)) 1 1 w1 k := by
  have hm := ilenR hi
  subst hm
  refine app1 ht (h.row.ext hE) (Nat.le_trans hB hE.size) rfl hn fun b w1 a' c' W' hown hg hbl _ => ?_
  have hlt2 := hi.lt
  have hlt := h.lt
  have hrow := h.row.lt
  have hsz := hE.size
  have o1 := offB_old (k0 := W0.heap.size) (fun k hk => (hrow k hk).2) (fun k hk => (hlt2 k hk).1)
  refine hk a' c' W' ⟨?_, by simp [h.len], ?_, ?_, ?_⟩ (Below.grown (Below.refl _ _) hg (Nat.le_trans hB hE.size) fun q hq => (hrow q hq).1)
  · have e : sls (hs ++ [(a2, c2)]) (xss ++ [ys]) = sls hs xss ++ [.slice a2 ys.length c2] := by
      unfold sls
      rw [List.zipWith_append h.len]
      rfl
    rw [e]
    exact hown
  · intro i h1 h2
    by_cases hi' : i < hs.length
    · have hi2 : i < xss.length := by have := h.len; omega
      rw [List.getElem_append_left hi', List.getElem_append_left hi2]
      exact ((h.each i hi' hi2).ext hE).keep hg (h.apart _ (List.getElem_mem hi'))
    · have e1 : i = hs.length := by simp at h1; omega
      have e2 : i = xss.length := by have := h.len; omega
      have g1 : (hs ++ [(a2, c2)])[i] = (a2, c2) := by simp [e1]
      have g2 : (xss ++ [ys])[i] = ys := by simp [e2]
      rw [g1, g2]
      exact (hi.base hB).keep hg o1.2
  · intro x hx
    have hxo : offB x.1 a ∧ ∀ k, obl x.1 = some k → k < W.heap.size := by
      rcases List.mem_append.1 hx with hx | hx
      · exact ⟨h.apart x hx, fun k hk => by have := (hlt x hx k hk).2; omega⟩
      · simp at hx; subst hx; exact ⟨o1.2, fun k hk => (hlt2 k hk).2⟩
    rcases hbl with e | ⟨g, e, hge⟩
    · unfold offB; rw [e]; exact hxo.1
    · exact (offB_old (k0 := W.heap.size) hxo.2 (fun k hk => by rw [e] at hk; cases hk; exact hge)).1
  · refine List.pairwise_append.2 ⟨h.dist, List.pairwise_singleton _ _, fun x hx y hy => ?_⟩
    simp at hy; subst hy
    exact (offB_old (k0 := W0.heap.size) (fun k hk => (hlt x hx k hk).2) (fun k hk => (hlt2 k hk).1)).1
theorem sls_get (hl : hs.length = xss.length) {x : Nat} (h1 : x < hs.length) (h2 : x < xss.length) : (sls hs xss)[x]? = some (.slice hs[x].1 xss[x].length hs[x].2) := by
  rw [List.getElem?_eq_getElem (by simp [sls]; omega)]
  simp [sls]
theorem sls_set {x : Nat} (hl : hs.length = xss.length) (h : Option Addr × Nat) (ys : List Int) : sls (hs.set x h) (xss.set x ys) = (sls hs xss).set x (.slice h.1 ys.length h.2) := by
  apply List.ext_getElem?
  intro i
  by_cases hi : i < hs.length
  · have hi2 : i < xss.length := by omega
    rw [sls_get (by simpa using hl) (by simpa using hi) (by simpa using hi2)]
    by_cases e : x = i
    · subst e
      rw [List.getElem?_set_self (by simp [sls]; omega)]
      simp
    · rw [List.getElem?_set_ne e, sls_get hl hi hi2]
      simp [List.getElem_set_ne e]
  · rw [List.getElem?_eq_none (by simp [sls]; omega), List.getElem?_eq_none (by simp [sls]; omega)]
/-- out[x] = append(out[x], i). -/
theorem Own2.grow {P : Program} {t : TypeId} {z : Value} {by_ : Nat} {y : Int} {x : Nat} {v : Int} {K : World → Prop} (ht : SlT P t ei z by_) (h : Own2 W B eo ei a n c hs xss) (hB : B ≤ W.heap.size) (hx : y = (x : Nat)) (hx2 : x < xss.length)
    (hn : xss[x].length < 4398046511104) (hk : ∀ hs' W', Own2 W' B eo ei a n c hs' (xss.set x (xss[x] ++ [v])) → Below B W W' → K W') :
    0 ≤ y ∧ y < (n : Nat) ∧ ∃ p, a = some p ∧ ∃ xa, ∃ xn, ∃ xc, W.cell? (p.add (y.toNat * 1)) = some (.slice xa xn xc) ∧ newC W (.cells #[.int .i64 v] ei) fun b w1 => app P t t t xa xn xc (some (bl b)) 1 1 w1 fun a' c' w2 =>
      0 ≤ y ∧ y < (n : Nat) ∧ ∃ p, a = some p ∧ sto w2 (p.add (y.toNat * 1)) (.slice a' (xn + 1) c') K := by
  subst hx
  have hnl := h.ilen
  have hl := h.len
  have hx1 : x < hs.length := by omega
  obtain ⟨g, hga, _⟩ := h.row.form (by omega)
  have hcell := OwnR.row h.row x (by simp [sls]; omega)
  obtain ⟨p, hp, hc⟩ := hcell
  have he := h.each x hx1 hx2
  refine ⟨by omega, by omega, p, hp, _, _, _, (by rw [Nat.mul_one, Int.toNat_natCast, hc, ← List.getElem?_eq_getElem]; exact sls_get hl hx1 hx2), ?_⟩
  refine app1 ht he hB rfl hn fun b w1 a' c' w2 hown hg hbl _ => ⟨by omega, by omega, p, hp, ?_⟩
  rw [Nat.mul_one, Int.toNat_natCast]
  have hmem : hs[x] ∈ hs := List.getElem_mem hx1
  have hrow2 := h.row.keep hg (by
    have := h.apart _ hmem
    unfold offB at this
    rcases this with e | e
    · rw [e]; cases obl a <;> simp
    · right; exact fun e' => e e'.symm)
  refine OwnR.sto hrow2 hp (by omega) fun W' hrow3 hg3 => ?_
  have hlt := h.lt
  have hrlt := h.row.lt
  have hcap := hown.lt
  have ha' : offB a' a := by
    unfold offB
    rcases hbl with e | ⟨g', e, hge⟩
    · rw [e]; exact h.apart _ hmem
    · right
      rw [e]
      intro e2
      have := hrlt g' e2.symm
      omega
  refine hk (hs.set x (a', c')) W' ⟨?_, by simp [hl], ?_, ?_, ?_⟩ ?_
  · have e : xss[x].length + 1 = (xss[x] ++ [v]).length := by simp
    rw [sls_set hl]
    rw [e] at hrow3
    exact hrow3
  · intro i h1 h2
    simp at h1 h2
    by_cases e : x = i
    · subst e
      simp only [List.getElem_set_self]
      have := hown.keep hg3 ha'
      simpa [ints] using this
    · rw [List.getElem_set_ne e, List.getElem_set_ne e]
      refine ((h.each i h1 h2).keep hg ?_).keep hg3 (h.apart _ (List.getElem_mem h1))
      have hd : offB hs[i].1 hs[x].1 := by
        rcases Nat.lt_or_ge i x with hix | hix
        · exact List.pairwise_iff_getElem.1 h.dist i x h1 hx1 hix
        · have := List.pairwise_iff_getElem.1 h.dist x i hx1 h1 (by omega)
          unfold offB at *
          rcases this with e | e
          · rw [e]; cases obl hs[i].1 <;> simp
          · cases hh : obl hs[i].1 with
            | none => exact .inl rfl
            | some q => right; rw [← hh]; exact fun e' => e e'.symm
      exact hd
  · intro y hy
    rcases List.mem_or_eq_of_mem_set hy with hy | rfl
    · exact h.apart y hy
    · exact ha'
  · refine List.pairwise_iff_getElem.2 fun i j hi hj hij => ?_
    simp at hi hj
    have hd := List.pairwise_iff_getElem.1 h.dist i j hi hj hij
    have hnew : ∀ q, q ∈ hs → offB q.1 hs[x].1 → offB q.1 a' ∧ offB a' q.1 := by
      intro q hq ho
      rcases hbl with e | ⟨g', e, hge⟩
      · unfold offB at *
        rw [e]
        refine ⟨ho, ?_⟩
        rcases ho with e | e
        · rw [e]; cases obl hs[x].1 <;> simp
        · cases hh : obl hs[x].1 with
          | none => exact .inl rfl
          | some q' => right; rw [← hh]; exact fun e' => e e'.symm
      · exact offB_old (k0 := W.heap.size) (fun k hk => (hlt q hq k hk).2) (fun k hk => by rw [e] at hk; cases hk; exact hge)
    by_cases e1 : x = i
    · subst e1
      rw [List.getElem_set_self, List.getElem_set_ne (by omega)]
      refine (hnew _ (List.getElem_mem hj) ?_).2
      unfold offB at *
      rcases hd with e | e
      · rw [e]; cases obl hs[j].1 <;> simp
      · cases hh : obl hs[j].1 with
        | none => exact .inl rfl
        | some q' => right; rw [← hh]; exact fun e' => e e'.symm
    · by_cases e2 : x = j
      · subst e2
        rw [List.getElem_set_self, List.getElem_set_ne (by omega)]
        exact (hnew _ (List.getElem_mem hi) hd).1
      · rw [List.getElem_set_ne e1, List.getElem_set_ne e2]
        exact hd
  · exact Below.grown (Below.grown (Below.refl _ _) hg hB fun q hq => (hlt _ hmem q hq).1) hg3 (Nat.le_trans hB hg.size) fun q hq => (hrlt q hq).1
/-- make([][]int, n). -/
theorem Own2.made (W : World) (B : Nat) (eo ei : TypeId) (n : Nat) (hB : B ≤ W.heap.size) (hm : n ≤ 140737488355328) :
    Own2 (W.alloc (.cells (Array.replicate n (.slice none 0 0)) eo)) B eo ei (some (bl W.heap.size)) n n (List.replicate n (none, 0)) (List.replicate n []) := by
  have e : sls (List.replicate n ((none : Option Addr), 0)) (List.replicate n []) = List.replicate n (.slice none 0 0) := by simp [sls]
  refine ⟨by rw [e]; exact OwnR.made _ n hB hm, by simp, fun i h1 h2 => ?_, fun h hh => ?_, ?_⟩
  · simp only [List.getElem_replicate]
    exact OwnR.nil _ _ _
  · rw [(List.mem_replicate.1 hh).2]; exact .inl rfl
  · exact List.pairwise_replicate.2 (.inr (.inl rfl))
theorem offB_symm {x y : Option Addr} (h : offB x y) : offB y x := by
  unfold offB at *
  rcases h with e | e
  · rw [e]; cases obl y <;> simp
  · cases hh : obl y with
    | none => exact .inl rfl
    | some q => right; rw [← hh]; exact fun e' => e e'.symm
theorem Own2.off (h : Own2 W B eo ei a n c hs xss) {i x : Nat} (h1 : i < hs.length) (hx : x < hs.length) (hne : i ≠ x) : offB hs[i].1 hs[x].1 := by
  rcases Nat.lt_or_ge i x with hix | hix
  · exact List.pairwise_iff_getElem.1 h.dist i x h1 hx hix
  · exact offB_symm (List.pairwise_iff_getElem.1 h.dist x i hx h1 (by omega))
/-- An inner row has turned. -/
theorem Own2.upd (h : Own2 W B eo ei a n c hs xss) {x : Nat} (hx : x < hs.length) (hx2 : x < xss.length) {ys : List Int} (hg : Chg W W' (obl hs[x].1)) (hown : OwnR W' B ei hs[x].1 xss[x].length hs[x].2 (ints ys)) : Own2 W' B eo ei a n c hs (xss.set x ys) := by
  have hl := ilenR hown
  refine ⟨?_, by simp [h.len], fun i h1 h2 => ?_, h.apart, h.dist⟩
  · have e : sls hs (xss.set x ys) = sls hs xss := by
      have := sls_set (x := x) h.len hs[x] ys
      rw [List.set_getElem_self] at this
      rw [this]
      have hg := sls_get h.len hx hx2
      rw [← hl]
      obtain ⟨hlt, hv⟩ := List.getElem?_eq_some_iff.1 hg
      rw [← hv, List.set_getElem_self]
    rw [e]
    exact h.row.keep hg (offB_symm (h.apart _ (List.getElem_mem hx)))
  · simp at h2
    by_cases e : x = i
    · subst e
      simp only [List.getElem_set_self]
      rw [hl] at hown
      exact hown
    · rw [List.getElem_set_ne e]
      exact (h.each i h1 h2).keep hg (h.off h1 hx (fun e' => e e'.symm))
/-- out[x], read. -/
theorem Own2.ix {y : Int} {x : Nat} {K : Option Addr → Nat → Nat → Prop} (h : Own2 W B eo ei a n c hs xss) (hx : y = (x : Nat)) (hx2 : x < xss.length) (hk : ∀ (h1 : x < hs.length), K hs[x].1 xss[x].length hs[x].2) :
    0 ≤ y ∧ y < (n : Nat) ∧ ∃ p, a = some p ∧ ∃ xa, ∃ xn, ∃ xc, W.cell? (p.add (y.toNat * 1)) = some (.slice xa xn xc) ∧ K xa xn xc := by
  subst hx
  have hnl := h.ilen
  have hl := h.len
  have hx1 : x < hs.length := by omega
  obtain ⟨p, hp, hc⟩ := OwnR.row h.row x (by simp [sls]; omega)
  exact ⟨by omega, by omega, p, hp, _, _, _, (by rw [Nat.mul_one, Int.toNat_natCast, hc, ← List.getElem?_eq_getElem]; exact sls_get hl hx1 hx2), hk hx1⟩
/-- out[j] = l, l built since W0. -/
theorem Own2.put {a2 : Option Addr} {m c2 : Nat} {ys : List Int} {y : Int} {j : Nat} {K : World → Prop} (h : Own2 W0 B eo ei a n c hs xss) (hB : B ≤ W0.heap.size) (hE : Ext W0 W) (hi : OwnR W W0.heap.size ei a2 m c2 (ints ys)) (hy : y = (j : Nat)) (hj : j < xss.length)
    (hk : ∀ W', Own2 W' B eo ei a n c (hs.set j (a2, c2)) (xss.set j ys) → Below B W W' → K W') :
    0 ≤ y ∧ y < (n : Nat) ∧ ∃ p, a = some p ∧ sto W (p.add (y.toNat * 1)) (.slice a2 m c2) K := by
  subst hy
  have hm := ilenR hi
  subst hm
  have hnl := h.ilen
  have hl := h.len
  have hlt2 := hi.lt
  have hlt := h.lt
  have hrow := h.row.lt
  obtain ⟨g, hga, _⟩ := h.row.form (by omega)
  refine ⟨by omega, by omega, _, hga, ?_⟩
  rw [Nat.mul_one, Int.toNat_natCast]
  have o1 := offB_old (k0 := W0.heap.size) (fun k hk => (hrow k hk).2) (fun k hk => (hlt2 k hk).1)
  refine OwnR.sto (h.row.ext hE) hga (by omega) fun W' hrow3 hg3 => ?_
  refine hk W' ⟨by rw [sls_set hl]; exact hrow3, by simp [hl], fun i h1 h2 => ?_, fun x hx => ?_, ?_⟩ (Below.grown (Below.refl _ _) hg3 (Nat.le_trans hB hE.size) fun q hq => (hrow q hq).1)
  · simp at h1 h2
    by_cases e : j = i
    · subst e
      simp only [List.getElem_set_self]
      exact (hi.base hB).keep hg3 o1.2
    · rw [List.getElem_set_ne e, List.getElem_set_ne e]
      exact ((h.each i h1 h2).ext hE).keep hg3 (h.apart _ (List.getElem_mem h1))
  · rcases List.mem_or_eq_of_mem_set hx with hx | rfl
    · exact h.apart x hx
    · exact o1.2
  · refine List.pairwise_iff_getElem.2 fun i k hi' hk' hik => ?_
    simp at hi' hk'
    have o2 : ∀ q ∈ hs, offB q.1 a2 ∧ offB a2 q.1 := fun q hq => offB_old (k0 := W0.heap.size) (fun k hk => (hlt q hq k hk).2) (fun k hk => (hlt2 k hk).1)
    by_cases e1 : j = i
    · subst e1
      rw [List.getElem_set_self, List.getElem_set_ne (by omega)]
      exact (o2 _ (List.getElem_mem hk')).2
    · by_cases e2 : j = k
      · subst e2
        rw [List.getElem_set_self, List.getElem_set_ne (by omega)]
        exact (o2 _ (List.getElem_mem hi')).1
      · rw [List.getElem_set_ne e1, List.getElem_set_ne e2]
        exact List.pairwise_iff_getElem.1 h.dist i k hi' hk' hik
end Go.Proofs.Ythekpkamedjloaa
