/- Duals and complements. -/
import Derived.Test.YthekpkamedjloaaGreatPc4
import Derived.Test.YthekpkamedjloaaGreatQl2
namespace Go.Proofs.YthekpkamedjloaaGreat
open Go.RowKit
theorem five {W : World} {B : Nat} {e : TypeId} {b : Nat} {x0 x1 x2 x3 x4 : Int} (h : OwnR W B e (some (bl b)) 5 5 [.int .i64 x0, .int .i64 x1, .int .i64 x2, .int .i64 x3, .int .i64 x4]) :
    W.cell? ((bl b).add 0) = some (.int .i64 x0) ∧ W.cell? ((bl b).add 1) = some (.int .i64 x1) ∧ W.cell? ((bl b).add 2) = some (.int .i64 x2) ∧ W.cell? ((bl b).add 3) = some (.int .i64 x3) ∧ W.cell? ((bl b).add 4) = some (.int .i64 x4) ∧ True :=
  ⟨h.at rfl, h.at rfl, h.at rfl, h.at rfl, h.at rfl, trivial⟩
theorem params_ok (w : World) (x0 x1 x2 x3 x4 : Int) : Fn PR 23 [.agg #[.int .i64 x0, .int .i64 x1, .int .i64 x2, .int .i64 x3, .int .i64 x4], .agg #[.int .i64 x0, .int .i64 x1, .int .i64 x2, .int .i64 x3, .int .i64 x4]] w fun v w' => v = .bool true ∧ Ext w w' := by
  refine U23 ?_
  unfold P23_0
  refine newRow (B := w.heap.size) 5 rfl (Nat.le_refl _) (by omega) fun b1 w1 hb1 hE1 hs1 h1 => ?_
  refine newRow (B := w.heap.size) 5 rfl (by omega) (by omega) fun b2 w2 hb2 hE2 hs2 h2 => ?_
  have h3 := h1.ext hE2
  refine ⟨_, h3.at rfl, _, h2.at rfl, ?_⟩
  simp only [decide_true, cnd_T]
  refine ⟨_, h3.at rfl, _, h2.at rfl, ?_⟩
  simp only [decide_true, cnd_T]
  refine ⟨_, h3.at rfl, _, h2.at rfl, ?_⟩
  simp only [decide_true, cnd_T]
  refine ⟨_, h3.at rfl, _, h2.at rfl, ?_⟩
  simp only [decide_true, cnd_T]
  refine ⟨_, h3.at rfl, _, h2.at rfl, ?_, hE1.trans hE2⟩
  simp
theorem rawRows_ok (w : World) (a : Option Addr) (n c : Nat) (hs : List (Option Addr × Nat)) (xss : List (List Int)) (rows cols : Nat) (hr : rows ≤ 1000000) (hc : cols ≤ 1000000) (h : SlI2 w a n c hs xss) :
    Fn PR 20 [.slice a n c, .int .i64 rows, .int .i64 cols] w fun v w' => (∃ a' n' c' ks, v = .slice a' n' c' ∧ Own2 w' w.heap.size 25 3 a' n' c' ks ((xss.take rows).map (List.take cols))) ∧ Ext w w' := by
  refine U20 ?_
  unfold P20_0
  have hl := h.len
  subst hl
  refine J_loop (F := F20) hmx L20_0 (fun x : Nat × Option Addr × Nat × Nat × List (Option Addr × Nat) => [.slice a xss.length c, .int .i64 rows, .int .i64 cols, .slice x.2.1 x.2.2.1 x.2.2.2.1, .int .i64 x.1])
    (fun x W => x.1 ≤ xss.length ∧ x.1 ≤ rows ∧ Own2 W w.heap.size 25 3 x.2.1 x.2.2.1 x.2.2.2.1 x.2.2.2.2 ((xss.take x.1).map (List.take cols)) ∧ Ext w W) (fun x _ => xss.length - x.1) (0, none, 0, 0, []) rfl ⟨by simp, by simp, Own2.nil _ _ _ _, Ext.refl _⟩ ?_
  rintro ⟨i, oa, on, oc, ks⟩ W ⟨hi, hir, hown, hE⟩
  dsimp only at hi hir hown hE
  refine (T20_L0 ..).mpr ?_
  simp only [P20_L0, setA_ret, retQ_ret]
  have hol := hown.ilen
  have fin : (i = xss.length ∨ i = rows) → (xss.take i).map (List.take cols) = (xss.take rows).map (List.take cols) := by
    rintro (e | e)
    · rw [e, List.take_length, List.take_of_length_le (by omega)]
    · rw [e]
  refine cnd_decide (fun hlt => ?_) (fun hge => ⟨⟨oa, on, oc, ks, rfl, fin (.inl (by omega)) ▸ hown⟩, hE⟩)
  refine cnd_decide (fun hlt2 => ?_) (fun hge => ⟨⟨oa, on, oc, ks, rfl, fin (.inr (by omega)) ▸ hown⟩, hE⟩)
  have hi2 : i < xss.length := by omega
  refine ix2 (i := i) (h.ints.ext hE) rfl rfl hi2 fun hh _ => ?_
  refine (raw_ok W _ _ _ _ cols hc ((h.each i hh hi2).ext hE)).use ?_
  rintro _ w4 ⟨⟨a', n', c', rfl, hin, hn'⟩, hE4⟩
  refine ⟨_, _, _, rfl, ?_⟩
  simp at hol
  refine hown.push slt39 hE.size hE4 hin (by omega) fun a'' c'' W' hown' hx' => wr (by omega) (by omega) ⟨(i + 1, a'', on + 1, c'', ks ++ [(a', c')]), rfl, ⟨by simp; omega, by simp; omega, ?_, Below.up hx' (hE.trans hE4) (Nat.le_refl _)⟩, by simp; omega⟩
  simp only
  rw [List.take_succ_eq_append_getElem hi2, List.map_append]
  exact hown'
def dualTo (bss : List (List Int)) (x : Int) (i : Nat) : List Int := ((List.range i).filter fun j => decide (x ∈ bss.getD j [])).map fun j : Nat => (j : Int)
def dualR (v : Int) (bss : List (List Int)) : List (List Int) := (List.range v.toNat).map fun x : Nat => dualTo bss x bss.length
theorem dualTo_succ (bss : List (List Int)) (x : Int) (i : Nat) (hi : i < bss.length) : dualTo bss x (i + 1) = dualTo bss x i ++ (if x ∈ bss[i] then [(i : Int)] else []) := by
  unfold dualTo
  rw [List.range_succ, List.filter_append, List.map_append]
  congr 1
  have e : bss.getD i [] = bss[i] := by simp [List.getD_eq_getElem?_getD, List.getElem?_eq_getElem hi]
  by_cases h : x ∈ bss[i] <;> simp only [List.filter_cons, List.filter_nil, e, h, decide_true, decide_false, if_true, if_false, List.map_cons, List.map_nil, Bool.false_eq_true]
theorem dualTo_len (bss : List (List Int)) (x : Int) (i : Nat) : (dualTo bss x i).length ≤ i := by
  unfold dualTo
  rw [List.length_map]
  exact Nat.le_trans (List.length_filter_le _ _) (by simp)
def compTo (b : List Int) (n : Nat) : List Int := ((List.range n).filter fun x : Nat => decide (¬ (x : Int) ∈ b)).map fun x : Nat => (x : Int)
def compR (v : Int) (bss : List (List Int)) : List (List Int) := bss.map fun b => compTo b v.toNat
theorem compTo_succ (b : List Int) (n : Nat) : compTo b (n + 1) = compTo b n ++ (if (n : Int) ∈ b then [] else [(n : Int)]) := by
  unfold compTo
  rw [List.range_succ, List.filter_append, List.map_append]
  congr 1
  by_cases h : (n : Int) ∈ b <;> simp [h]
theorem compTo_len (b : List Int) (n : Nat) : (compTo b n).length ≤ n := by
  unfold compTo
  rw [List.length_map]
  exact Nat.le_trans (List.length_filter_le _ _) (by simp)
theorem chk_zero {v : Int} {bss : List (List Int)} (h : (chk v bss).2 = 0) : 3 ≤ v ∧ v ≤ 200 ∧ bss.length ≤ 2000 ∧ ∃ k, good v k bss := by
  unfold chk at h
  by_cases c1 : v < 3 ∨ 200 < v
  · rw [if_pos c1] at h; cases h
  rw [if_neg c1] at h
  by_cases c2 : 2000 < bss.length
  · rw [if_pos c2] at h; cases h
  rw [if_neg c2] at h
  by_cases c3 : bss.length = 0
  · rw [if_pos c3] at h; cases h
  rw [if_neg c3] at h
  refine ⟨by omega, by omega, by omega, (bss.headD []).length, ?_⟩
  unfold chk2 at h
  by_cases c4 : (bss.headD []).length < 2 ∨ v ≤ ((bss.headD []).length : Nat)
  · rw [if_pos c4] at h; cases h
  rw [if_neg c4] at h
  by_cases c5 : ¬ good v (bss.headD []).length bss
  · rw [if_pos c5] at h; cases h
  exact Classical.not_not.1 c5
theorem map_set_range {α : Type} {n x : Nat} {f g : Nat → α} {y : α} (hy : g x = y) (h : ∀ z, z ≠ x → g z = f z) : ((List.range n).map f).set x y = (List.range n).map g := by
  apply List.ext_getElem (by simp)
  intro i h1 h2
  simp at h1
  by_cases e : x = i
  · subst e; simp [hy]
  · rw [List.getElem_set_ne e]
    simp
    exact (h i (fun e' => e e'.symm)).symm
/-- What Dual and Complement return. -/
noncomputable def withE (v : Int) (bss r : List (List Int)) : List (List Int) × Int := if (chk v bss).2 = 0 then (r, 0) else ([], (chk v bss).2)
theorem withE_bad {v : Int} {bss r : List (List Int)} (h : (chk v bss).2 ≠ 0) : withE v bss r = ([], (chk v bss).2) := by unfold withE; rw [if_neg h]
theorem withE_ok {v : Int} {bss r : List (List Int)} (h : (chk v bss).2 = 0) : withE v bss r = (r, 0) := by unfold withE; rw [if_pos h]
theorem dual_ok (w : World) (v : Int) (a : Option Addr) (hs : List (Option Addr × Nat)) (bss : List (List Int)) (c : Nat) (h : Ints2 w a hs bss) :
    Fn PR 24 [.int .i64 v, .slice a bss.length c] w (RowsE w (withE v bss (dualR v bss))) := by
  refine U24 ?_
  unfold P24_0
  refine (Check_ok w v a hs bss c h).use ?_
  rintro _ w2 ⟨rfl, hE2⟩
  refine ⟨_, _, _, _, _, _, rfl, newRow (B := w2.heap.size) 5 rfl (Nat.le_refl _) (by omega) fun b1 w3 hb1 hE3 hs3 h3 => sto5 h3 fun w4 h4 hg4 => ?_⟩
  have hE4 : Ext w w4 := (hE2.trans hE3).chg hg4 (by intro k hk; cases hk; have := hE2.size; omega)
  refine cnd_not (cnd_decide (fun h0 => ?_) (fun h0 => RowsE.fail (withE_bad h0) hE4))
  obtain ⟨hv3, hv200, hl, k, hg⟩ := chk_zero h0
  refine ⟨⟨by omega, by omega, by omega, by omega⟩, ?_⟩
  rintro bt w5 rfl rfl
  have hT0 := Own2.made w4 w.heap.size 25 3 v.toNat hE4.size (by omega)
  have hE5 : Ext w (w4.alloc (.cells (Array.replicate v.toNat (.slice none 0 0)) 25)) := hE4.trans (Ext.alloc _ _)
  have e0 : List.replicate v.toNat [] = (List.range v.toNat).map fun x : Nat => dualTo bss x 0 := by
    apply List.ext_getElem (by simp)
    intro i h1 h2
    simp [dualTo]
  rw [e0] at hT0
  generalize w4.alloc (.cells (Array.replicate v.toNat (.slice none 0 0)) 25) = w5 at *
  generalize w4.heap.size = bt at *
  refine J_loop (F := F24) hmx L24_0 (fun i : Nat => [.slice (some (bl bt)) v.toNat v.toNat, .slice a bss.length c, .int .i64 bss.length, .int .i64 i])
    (fun i W => i ≤ bss.length ∧ (∃ hs', Own2 W w.heap.size 25 3 (some (bl bt)) v.toNat v.toNat hs' ((List.range v.toNat).map fun x : Nat => dualTo bss x i)) ∧ Ext w W) (fun i _ => bss.length - i) 0 rfl ⟨by omega, ⟨_, hT0⟩, hE5⟩ ?_
  rintro i W ⟨hi, ⟨hs', hown⟩, hE⟩
  refine (T24_L0 ..).mpr ?_
  simp only [P24_L0, setA_ret, retQ_ret]
  refine cnd_decide (fun hlt => ?_) (fun hge => ?_)
  · have hi2 : i < bss.length := by omega
    have hgi := hg _ (List.getElem_mem hi2)
    refine ix2 (i := i) (h.ext hE) rfl rfl hi2 fun hh2 _ => ?_
    have hxb := h.at hi2 hh2
    refine J_loop (F := F24) hmx L24_2 (fun k : Nat => [.slice (some (bl bt)) v.toNat v.toNat, .int .i64 i, .slice a bss.length c, .int .i64 bss.length, .int .i64 i, .slice hs[i].1 bss[i].length hs[i].2, .int .i64 bss[i].length, .int .i64 k])
      (fun k W => k ≤ bss[i].length ∧ (∃ hs', Own2 W w.heap.size 25 3 (some (bl bt)) v.toNat v.toNat hs' ((List.range v.toNat).map fun x : Nat => dualTo bss x i ++ if (x : Int) ∈ bss[i].take k then [(i : Int)] else [])) ∧ Ext w W) (fun k _ => bss[i].length - k) 0 rfl ⟨by omega, ⟨_, by simpa using hown⟩, hE⟩ ?_
    rintro k W1 ⟨hk, ⟨hs1, hown1⟩, hE1⟩
    refine (T24_2 ..).mpr ?_
    simp only [P24_2, setA_again, if_true]
    refine cnd_decide (fun hklt => ?_) (fun hkge => ?_)
    · have hk2 : k < bss[i].length := by omega
      refine ix (hxb _ hE1) rfl (by omega) (by omega) ?_
      rw [gi_get hk2]
      have hx := hgi.2.2 _ (List.getElem_mem hk2)
      have hnot : bss[i][k] ∉ bss[i].take k := by
        intro hm
        obtain ⟨j, hj, e⟩ := List.mem_take_iff_getElem.1 hm
        have := List.pairwise_iff_getElem.1 hgi.2.1 j k (by omega) hk2 (by omega)
        omega
      have hdl := dualTo_len bss bss[i][k] i
      refine hown1.grow slt25 hE1.size (x := bss[i][k].toNat) (v := (i : Int)) (by omega) (by simp; omega) ?_ fun hs2 W2 hown2 hx2 => wr (by omega) (by have := h.len; have := (hxb _ hE1).len; omega) ⟨k + 1, rfl, ⟨by omega, ⟨hs2, ?_⟩, Below.up hx2 hE1 (Nat.le_refl _)⟩, by omega⟩
      · simp only [List.getElem_map, List.getElem_range]
        rw [Int.toNat_of_nonneg hx.1, if_neg hnot]
        simp
        omega
      · rw [map_set_range (g := fun x : Nat => dualTo bss x i ++ if (x : Int) ∈ bss[i].take (k + 1) then [(i : Int)] else [])] at hown2
        · exact hown2
        · simp only [List.getElem_map, List.getElem_range]
          rw [Int.toNat_of_nonneg hx.1, if_neg hnot, if_pos (by rw [List.take_succ_eq_append_getElem hk2]; exact List.mem_append_right _ (List.mem_singleton.2 rfl))]
          simp
        · intro z hz
          have : (z : Int) ∈ bss[i].take (k + 1) ↔ (z : Int) ∈ bss[i].take k := by
            rw [List.take_succ_eq_append_getElem hk2, List.mem_append, List.mem_singleton]
            exact ⟨fun h => h.elim id fun e => absurd (by omega) hz, .inl⟩
          simp only [this]
    · have : k = bss[i].length := by omega
      subst this
      refine wr (by omega) (by omega) ⟨i + 1, rfl, ⟨by omega, ⟨hs1, ?_⟩, hE1⟩, by omega⟩
      rw [List.take_length] at hown1
      have e : (fun x : Nat => dualTo bss x (i + 1)) = fun x : Nat => dualTo bss x i ++ if (x : Int) ∈ bss[i] then [(i : Int)] else [] := by
        funext x
        exact dualTo_succ bss x i hi2
      rw [e]
      exact hown1
  · have : i = bss.length := by omega
    subst this
    exact ⟨⟨_, _, _, hs', by rw [withE_ok h0], by rw [withE_ok h0]; exact hown⟩, hE⟩
theorem rdual_ok (w : World) (v : Int) (a : Option Addr) (hs : List (Option Addr × Nat)) (bss : List (List Int)) (c : Nat) (h : Ints2 w a hs bss) (hv : 0 ≤ v ∧ v ≤ 200) (hb : bss.length ≤ 2000) :
    Fn PR 27 [.int .i64 v, .slice a bss.length c] w fun r w' => (∃ a' n' c' ks, r = .slice a' n' c' ∧ Own2 w' w.heap.size 25 3 a' n' c' ks (dualR v bss)) ∧ Ext w w' := by
  refine U27 ?_
  unfold P27_0
  refine J_loop (F := F27) hmx L27_0 (fun x : Nat × Option Addr × Nat × Nat × List (Option Addr × Nat) => [.int .i64 v, .slice a bss.length c, .slice x.2.1 x.2.2.1 x.2.2.2.1, .int .i64 x.1])
    (fun x W => x.1 ≤ v.toNat ∧ Own2 W w.heap.size 25 3 x.2.1 x.2.2.1 x.2.2.2.1 x.2.2.2.2 ((List.range x.1).map fun x : Nat => dualTo bss x bss.length) ∧ Ext w W) (fun x _ => v.toNat - x.1) (0, none, 0, 0, []) rfl ⟨by simp, Own2.nil _ _ _ _, Ext.refl _⟩ ?_
  rintro ⟨i, oa, on, oc, ks⟩ W ⟨hi, hown, hE⟩
  dsimp only at hi hown hE
  refine (T27_L0 ..).mpr ?_
  simp only [P27_L0, setA_ret, retQ_ret]
  have hol := hown.ilen
  simp at hol
  refine cnd_decide (fun hlt => ?_) (fun hge => ?_)
  · refine J_loop (F := F27) hmx L27_2 (fun x : Nat × Option Addr × Nat × Nat => [.int .i64 v, .slice a bss.length c, .slice oa on oc, .int .i64 i, .slice x.2.1 x.2.2.1 x.2.2.2, .int .i64 x.1])
      (fun x W1 => x.1 ≤ bss.length ∧ OwnR W1 W.heap.size 3 x.2.1 x.2.2.1 x.2.2.2 (ints (dualTo bss i x.1)) ∧ Ext W W1) (fun x _ => bss.length - x.1) (0, none, 0, 0) rfl ⟨by simp, OwnR.nil _ _ _, Ext.refl _⟩ ?_
    rintro ⟨k, ba, bn, bc⟩ W1 ⟨hk, hb1, hE1⟩
    dsimp only at hk hb1 hE1
    refine (T27_2 ..).mpr ?_
    simp only [P27_2, setA_again, if_true]
    have hbn := ilenR hb1
    have hdl := dualTo_len bss i k
    refine cnd_decide (fun hklt => ?_) (fun hkge => ?_)
    · have hk2 : k < bss.length := by omega
      refine ix2 (i := k) (h.ext (hE.trans hE1)) rfl rfl hk2 fun hh2 _ => ?_
      refine (has_ok W1 _ _ _ _ (h.at hk2 hh2 _ (hE.trans hE1))).use ?_
      rintro _ _ ⟨rfl, rfl⟩
      have hsuc := dualTo_succ bss i k hk2
      refine ⟨_, rfl, cnd_decide (fun hm => ?_) (fun hm => ?_)⟩
      · rw [if_pos hm] at hsuc
        refine app1 slt25 hb1 hE1.size rfl (by omega) fun b1 w1' a' c' W2 hown2 hg _ _ => ?_
        refine wr (by omega) (by omega) ⟨(k + 1, a', bn + 1, c'), rfl, ⟨by simp; omega, ?_, hE1.chg hg fun q hq => (hb1.lt q hq).1⟩, by simp; omega⟩
        rw [hsuc]
        simpa [ints] using hown2
      · rw [if_neg hm, List.append_nil] at hsuc
        refine wr (by omega) (by omega) ⟨(k + 1, ba, bn, bc), rfl, ⟨by simp; omega, ?_, hE1⟩, by simp; omega⟩
        rw [hsuc]
        exact hb1
    · have : k = bss.length := by omega
      subst this
      refine hown.push slt39 hE.size hE1 hb1 (by omega) fun a' c' W3 hown3 hx3 => ?_
      refine wr (by omega) (by omega) ⟨(i + 1, a', on + 1, c', ks ++ [(ba, bc)]), rfl, ⟨by simp; omega, ?_, Below.up hx3 (hE.trans hE1) (Nat.le_refl _)⟩, by simp; omega⟩
      simp only
      rw [List.range_succ, List.map_append]
      exact hown3
  · have : i = v.toNat := by omega
    subst this
    exact ⟨⟨oa, on, oc, ks, rfl, hown⟩, hE⟩
theorem complement_ok (w : World) (v : Int) (a : Option Addr) (hs : List (Option Addr × Nat)) (bss : List (List Int)) (c : Nat) (h : Ints2 w a hs bss) :
    Fn PR 25 [.int .i64 v, .slice a bss.length c] w (RowsE w (withE v bss (compR v bss))) := by
  refine U25 ?_
  unfold P25_0
  refine (Check_ok w v a hs bss c h).use ?_
  rintro _ w2 ⟨rfl, hE2⟩
  refine ⟨_, _, _, _, _, _, rfl, newRow (B := w2.heap.size) 5 rfl (Nat.le_refl _) (by omega) fun b1 w3 hb1 hE3 hs3 h3 => sto5 h3 fun w4 h4 hg4 => ?_⟩
  have hE4 : Ext w w4 := (hE2.trans hE3).chg hg4 (by intro k hk; cases hk; have := hE2.size; omega)
  refine cnd_not (cnd_decide (fun h0 => ?_) (fun h0 => RowsE.fail (withE_bad h0) hE4))
  obtain ⟨hv3, hv200, hl, k, hg⟩ := chk_zero h0
  refine J_loop (F := F25) hmx L25_0 (fun x : Nat × Option Addr × Nat × Nat × List (Option Addr × Nat) => [.int .i64 v, .slice x.2.1 x.2.2.1 x.2.2.2.1, .slice a bss.length c, .int .i64 bss.length, .int .i64 x.1])
    (fun x W => x.1 ≤ bss.length ∧ Own2 W w.heap.size 25 3 x.2.1 x.2.2.1 x.2.2.2.1 x.2.2.2.2 ((bss.take x.1).map fun b => compTo b v.toNat) ∧ Ext w W) (fun x _ => bss.length - x.1) (0, none, 0, 0, []) rfl ⟨by simp, Own2.nil _ _ _ _, hE4⟩ ?_
  rintro ⟨i, oa, on, oc, ks⟩ W ⟨hi, hown, hE⟩
  dsimp only at hi hown hE
  refine (T25_L0 ..).mpr ?_
  simp only [P25_L0, setA_ret, retQ_ret]
  have hol := hown.ilen
  simp at hol
  refine cnd_decide (fun hlt => ?_) (fun hge => ?_)
  · have hi2 : i < bss.length := by omega
    refine ix2 (i := i) (h.ext hE) rfl rfl hi2 fun hh2 _ => ?_
    have hxb := h.at hi2 hh2
    refine J_loop (F := F25) hmx L25_2 (fun x : Nat × Option Addr × Nat × Nat => [.int .i64 v, .slice oa on oc, .slice hs[i].1 bss[i].length hs[i].2, .slice x.2.1 x.2.2.1 x.2.2.2, .slice a bss.length c, .int .i64 bss.length, .int .i64 i, .int .i64 v, .int .i64 x.1])
      (fun x W1 => x.1 ≤ v.toNat ∧ OwnR W1 W.heap.size 3 x.2.1 x.2.2.1 x.2.2.2 (ints (compTo bss[i] x.1)) ∧ Ext W W1) (fun x _ => v.toNat - x.1) (0, none, 0, 0) rfl ⟨by simp, OwnR.nil _ _ _, Ext.refl _⟩ ?_
    rintro ⟨k, ba, bn, bc⟩ W1 ⟨hk, hb1, hE1⟩
    dsimp only at hk hb1 hE1
    refine (T25_2 ..).mpr ?_
    simp only [P25_2, setA_again, if_true]
    have hbn := ilenR hb1
    have hdl := compTo_len bss[i] k
    refine cnd_decide (fun hklt => ?_) (fun hkge => ?_)
    · refine (contains_ok W1 _ _ _ _ (hxb _ (hE.trans hE1))).use ?_
      rintro _ _ ⟨rfl, rfl⟩
      have hsuc := compTo_succ bss[i] k
      refine ⟨_, rfl, cnd_not (cnd_decide (fun hm => ?_) (fun hm => ?_))⟩
      · rw [if_pos hm, List.append_nil] at hsuc
        refine wr (by omega) (by omega) ⟨(k + 1, ba, bn, bc), rfl, ⟨by simp; omega, ?_, hE1⟩, by simp; omega⟩
        rw [hsuc]
        exact hb1
      · rw [if_neg hm] at hsuc
        refine app1 slt25 hb1 hE1.size rfl (by omega) fun b1 w1' a' c' W2 hown2 hg _ _ => ?_
        refine wr (by omega) (by omega) ⟨(k + 1, a', bn + 1, c'), rfl, ⟨by simp; omega, ?_, hE1.chg hg fun q hq => (hb1.lt q hq).1⟩, by simp; omega⟩
        rw [hsuc]
        simpa [ints] using hown2
    · have : k = v.toNat := by omega
      subst this
      refine hown.push slt39 hE.size hE1 hb1 (by omega) fun a' c' W3 hown3 hx3 => ?_
      refine wr (by omega) (by omega) ⟨(i + 1, a', on + 1, c', ks ++ [(ba, bc)]), rfl, ⟨by simp; omega, ?_, Below.up hx3 (hE.trans hE1) (Nat.le_refl _)⟩, by simp; omega⟩
      simp only
      rw [List.take_succ_eq_append_getElem hi2, List.map_append]
      exact hown3
  · have : i = bss.length := by omega
    subst this
    rw [List.take_length] at hown
    exact ⟨⟨oa, on, oc, ks, by rw [withE_ok h0], by rw [withE_ok h0]; exact hown⟩, hE⟩
theorem rcomplement_ok (w : World) (v : Int) (a : Option Addr) (hs : List (Option Addr × Nat)) (bss : List (List Int)) (c : Nat) (h : Ints2 w a hs bss) (hv : 0 ≤ v ∧ v ≤ 200) (hb : bss.length ≤ 2000) :
    Fn PR 28 [.int .i64 v, .slice a bss.length c] w fun r w' => (∃ a' n' c' ks, r = .slice a' n' c' ∧ Own2 w' w.heap.size 25 3 a' n' c' ks (compR v bss)) ∧ Ext w w' := by
  refine U28 ?_
  unfold P28_0
  refine J_loop (F := F28) hmx L28_0 (fun x : Nat × Option Addr × Nat × Nat × List (Option Addr × Nat) => [.int .i64 v, .slice a bss.length c, .slice x.2.1 x.2.2.1 x.2.2.2.1, .int .i64 x.1])
    (fun x W => x.1 ≤ bss.length ∧ Own2 W w.heap.size 25 3 x.2.1 x.2.2.1 x.2.2.2.1 x.2.2.2.2 ((bss.take x.1).map fun b => compTo b v.toNat) ∧ Ext w W) (fun x _ => bss.length - x.1) (0, none, 0, 0, []) rfl ⟨by simp, Own2.nil _ _ _ _, Ext.refl _⟩ ?_
  rintro ⟨i, oa, on, oc, ks⟩ W ⟨hi, hown, hE⟩
  dsimp only at hi hown hE
  refine (T28_L0 ..).mpr ?_
  simp only [P28_L0, setA_ret, retQ_ret]
  have hol := hown.ilen
  simp at hol
  refine cnd_decide (fun hlt => ?_) (fun hge => ?_)
  · have hi2 : i < bss.length := by omega
    refine J_loop (F := F28) hmx L28_2 (fun x : Nat × Option Addr × Nat × Nat => [.int .i64 v, .slice a bss.length c, .slice oa on oc, .int .i64 i, .slice x.2.1 x.2.2.1 x.2.2.2, .int .i64 x.1])
      (fun x W1 => x.1 ≤ v.toNat ∧ OwnR W1 W.heap.size 3 x.2.1 x.2.2.1 x.2.2.2 (ints (compTo bss[i] x.1)) ∧ Ext W W1) (fun x _ => v.toNat - x.1) (0, none, 0, 0) rfl ⟨by simp, OwnR.nil _ _ _, Ext.refl _⟩ ?_
    rintro ⟨k, ba, bn, bc⟩ W1 ⟨hk, hb1, hE1⟩
    dsimp only at hk hb1 hE1
    refine (T28_2 ..).mpr ?_
    simp only [P28_2, setA_again, if_true]
    have hbn := ilenR hb1
    have hdl := compTo_len bss[i] k
    refine cnd_decide (fun hklt => ?_) (fun hkge => ?_)
    · refine ix2 (i := i) (h.ext (hE.trans hE1)) rfl rfl hi2 fun hh2 _ => ?_
      refine (has_ok W1 _ _ _ _ (h.at hi2 hh2 _ (hE.trans hE1))).use ?_
      rintro _ _ ⟨rfl, rfl⟩
      have hsuc := compTo_succ bss[i] k
      refine ⟨_, rfl, cnd_not (cnd_decide (fun hm => ?_) (fun hm => ?_))⟩
      · rw [if_pos hm, List.append_nil] at hsuc
        refine wr (by omega) (by omega) ⟨(k + 1, ba, bn, bc), rfl, ⟨by simp; omega, ?_, hE1⟩, by simp; omega⟩
        rw [hsuc]
        exact hb1
      · rw [if_neg hm] at hsuc
        refine app1 slt25 hb1 hE1.size rfl (by omega) fun b1 w1' a' c' W2 hown2 hg _ _ => ?_
        refine wr (by omega) (by omega) ⟨(k + 1, a', bn + 1, c'), rfl, ⟨by simp; omega, ?_, hE1.chg hg fun q hq => (hb1.lt q hq).1⟩, by simp; omega⟩
        rw [hsuc]
        simpa [ints] using hown2
    · have : k = v.toNat := by omega
      subst this
      refine hown.push slt39 hE.size hE1 hb1 (by omega) fun a' c' W3 hown3 hx3 => ?_
      refine wr (by omega) (by omega) ⟨(i + 1, a', on + 1, c', ks ++ [(ba, bc)]), rfl, ⟨by simp; omega, ?_, Below.up hx3 (hE.trans hE1) (Nat.le_refl _)⟩, by simp; omega⟩
      simp only
      rw [List.take_succ_eq_append_getElem hi2, List.map_append]
      exact hown3
  · have : i = bss.length := by omega
    subst this
    rw [List.take_length] at hown
    exact ⟨⟨oa, on, oc, ks, rfl, hown⟩, hE⟩
theorem resolve_bad (w : World) (v : Int) (a : Option Addr) (hs : List (Option Addr × Nat)) (bss : List (List Int)) (c : Nat) (h : Ints2 w a hs bss) (h0 : (chk v bss).2 ≠ 0) :
    Fn PR 26 [.int .i64 v, .slice a bss.length c] w fun r w' => r = .tuple #[.slice none 0 0, .int .i64 (chk v bss).2] ∧ Ext w w' := by
  refine U26 ?_
  unfold P26_0
  refine (Check_ok w v a hs bss c h).use ?_
  rintro _ w2 ⟨rfl, hE2⟩
  refine ⟨_, _, _, _, _, _, rfl, newRow (B := w2.heap.size) 5 rfl (Nat.le_refl _) (by omega) fun b1 w3 hb1 hE3 hs3 h3 => sto5 h3 fun w4 h4 hg4 => ?_⟩
  have hE4 : Ext w w4 := (hE2.trans hE3).chg hg4 (by intro k hk; cases hk; have := hE2.size; omega)
  refine cnd_not (cnd_decide (fun h1 => absurd h1 h0) (fun _ => ⟨rfl, hE4⟩))
end Go.Proofs.YthekpkamedjloaaGreat
