/- Difference sets: the reference's count; developments. -/
import Derived.Test.YthekpkamedjloaaGreatPe2
namespace Go.Proofs.YthekpkamedjloaaGreat
open Go.RowKit
theorem difS_short {v : Int} {xs : List Int} (h : xs.length < 2) : difS v xs = (0, false) := by
  refine difS_no (.inl ?_)
  match xs, h with
  | [], _ => rfl
  | [x], _ =>
    simp only [dif, List.flatMap_cons, List.flatMap_nil, difRow, List.map_cons, List.map_nil, List.append_nil, List.count_singleton, Int.sub_self, Int.zero_emod]
    rfl
theorem difS_pos {v : Int} {xs : List Int} (h3 : 3 ≤ v) (h : 2 ≤ xs.length) (hs : isSetS v xs) (hall : ∀ r : Int, 1 ≤ r → r < v → (dif v xs).count r = (dif v xs).count 1) : (dif v xs).count 1 ≠ 0 := by
  have h0 : 0 < xs.length := by omega
  have h1 : 1 < xs.length := by omega
  have hne : xs[0] ≠ xs[1] := fun e => by
    have := (List.nodup_iff_pairwise_ne.1 hs.1)
    exact List.pairwise_iff_getElem.1 this 0 1 h0 h1 (by omega) e
  have b0 := hs.2 _ (List.getElem_mem h0)
  have b1 := hs.2 _ (List.getElem_mem h1)
  have hm := Int.emod_nonneg (xs[0] - xs[1]) (show v ≠ 0 by omega)
  have hm2 := Int.emod_lt_of_pos (xs[0] - xs[1]) (show 0 < v by omega)
  have hm0 : (xs[0] - xs[1]) % v ≠ 0 := by
    intro e
    obtain ⟨k, hk⟩ := Int.dvd_of_emod_eq_zero e
    have hk1 : k < 1 := by
      rcases Int.lt_or_le k 1 with h | h
      · exact h
      · have : v * 1 ≤ v * k := Int.mul_le_mul_of_nonneg_left h (by omega)
        omega
    have hk2 : -1 < k := by
      rcases Int.lt_or_le (-1) k with h | h
      · exact h
      · have : v * k ≤ v * (-1) := Int.mul_le_mul_of_nonneg_left h (by omega)
        omega
    have : k = 0 := by omega
    subst this
    omega
  rw [← hall ((xs[0] - xs[1]) % v) (by omega) hm2]
  have hmem : (xs[0] - xs[1]) % v ∈ dif v xs := by
    refine List.mem_flatMap.2 ⟨xs[0], List.getElem_mem h0, List.mem_map.2 ⟨xs[1], List.getElem_mem h1, rfl⟩⟩
  have := List.count_pos_iff.2 hmem
  omega
theorem nodup_snoc {xs : List Int} {i : Nat} (hi : i < xs.length) (h : (xs.take i).Nodup) (h2 : ∀ y ∈ xs.take i, y ≠ xs[i]) : (xs.take (i + 1)).Nodup := by
  rw [List.take_succ_eq_append_getElem hi]
  refine List.nodup_append.2 ⟨h, List.nodup_cons.2 ⟨by simp, List.nodup_nil⟩, fun a ha b hb => ?_⟩
  simp at hb; subst hb
  exact h2 a ha
theorem not_nodup {xs : List Int} {i k : Nat} (hi : i < xs.length) (hk : k < i) (e : xs[i] = xs[k]'(by omega)) : ¬ xs.Nodup := by
  intro h
  exact List.pairwise_iff_getElem.1 (List.nodup_iff_pairwise_ne.1 h) k i (by omega) hi hk e.symm
open Classical in
theorem rIsDifference_ok (w : World) (v : Int) (a : Option Addr) (xs : List Int) (c : Nat) (h : Ints w a xs) :
    Fn PR 16 [.int .i64 v, .slice a xs.length c] w fun r w' => r = .tuple #[.int .i64 (difS v xs).1, .bool (difS v xs).2] ∧ Ext w w' := by
  refine U16 ?_
  unfold P16_0
  have no : ∀ W, Ext w W → difS v xs = (0, false) → (Value.tuple #[.int .i64 0, .bool false] = .tuple #[.int .i64 (difS v xs).1, .bool (difS v xs).2] ∧ Ext w W) := fun W hE hd => ⟨by rw [hd], hE⟩
  refine cnd_decide (fun h3 => no _ (Ext.refl _) (difS_bad (.inl h3))) (fun h3 => ?_)
  refine cnd_decide (fun h4 => no _ (Ext.refl _) (difS_bad (.inr (.inl h4)))) (fun h4 => ?_)
  refine cnd_decide (fun h5 => no _ (Ext.refl _) (difS_short (by omega))) (fun h5 => ?_)
  refine cnd_decide (fun h6 => no _ (Ext.refl _) (difS_bad (.inr (.inr (.inl h6))))) (fun h6 => ?_)
  refine ⟨⟨by omega, by omega, by omega, by omega⟩, ?_⟩
  rintro b3 w3 rfl rfl
  have hc0 : Cts (w.alloc (.cells (Array.replicate v.toNat (.int .i64 0)) 3)) w.heap.size (some (bl w.heap.size)) v [] := Cts.made (Nat.le_refl _) (by omega)
  have hE3 : Ext w (w.alloc (.cells (Array.replicate v.toNat (.int .i64 0)) 3)) := Ext.alloc _ _
  generalize w.alloc (.cells (Array.replicate v.toNat (.int .i64 0)) 3) = w3 at *
  have hset : ¬ isSetS v xs → difS v xs = (0, false) := fun h => difS_bad (.inr (.inr (.inr h)))
  refine J_loop (F := F16) hmx L16_0 (fun i : Nat => [.int .i64 v, .slice a xs.length c, .slice (some (bl w.heap.size)) v.toNat v.toNat, .int .i64 i])
    (fun i W => i ≤ xs.length ∧ (xs.take i).Nodup ∧ (∀ x ∈ xs.take i, 0 ≤ x ∧ x < v) ∧ Cts W w.heap.size (some (bl w.heap.size)) v [] ∧ Ext w W) (fun i _ => xs.length - i) 0 rfl ⟨by omega, by simp, by simp, hc0, hE3⟩ ?_
  rintro i W ⟨hi, hnd, hrg, hc, hE⟩
  refine (T16_L0 ..).mpr ?_
  simp only [P16_L0, setA_ret, retQ_ret]
  refine cnd_decide (fun hlt => ?_) (fun hge => ?_)
  · have hi2 : i < xs.length := by omega
    refine ix (h.ext hE) rfl (by omega) (by omega) ?_
    rw [gi_get hi2]
    refine cnd_decide (fun e => no _ hE (hset fun hs => ?_)) (fun e1 => ?_)
    · have := hs.2 _ (List.getElem_mem hi2); omega
    refine ix (h.ext hE) rfl (by omega) (by omega) ?_
    rw [gi_get hi2]
    refine cnd_decide (fun e => no _ hE (hset fun hs => ?_)) (fun e2 => ?_)
    · have := hs.2 _ (List.getElem_mem hi2); omega
    refine J_loop (F := F16) hmx L16_2 (fun k : Nat => [.int .i64 v, .slice a xs.length c, .slice (some (bl w.heap.size)) v.toNat v.toNat, .int .i64 i, .int .i64 k])
      (fun k W => k ≤ i ∧ (∀ y ∈ xs.take k, y ≠ xs[i]) ∧ Cts W w.heap.size (some (bl w.heap.size)) v [] ∧ Ext w W) (fun k _ => i - k) 0 rfl ⟨by omega, by simp, hc, hE⟩ ?_
    rintro k W1 ⟨hk, hne, hc1, hE1⟩
    refine (T16_2 ..).mpr ?_
    simp only [P16_2, setA_ret, setA_again, retQ_ret, if_true]
    refine cnd_decide (fun hklt => ?_) (fun hkge => ?_)
    · have hk2 : k < xs.length := by omega
      rintro w7 rfl
      have hE2 := hE1.trans (Ext.drew W1)
      refine ix (h.ext hE2) rfl (by omega) (by omega) (ix (h.ext hE2) rfl (by omega) (by omega) ?_)
      rw [gi_get hi2, gi_get hk2]
      refine cnd_decide (fun e => no _ hE2 (hset fun hs => not_nodup hi2 (by omega) e hs.1)) (fun e => ?_)
      refine wr (by omega) (by have := h.len; omega) ⟨k + 1, rfl, ⟨by omega, fun y hy => ?_, hc1.ext (Ext.drew W1), hE2⟩, by omega⟩
      rw [List.take_succ_eq_append_getElem hk2] at hy
      rcases List.mem_append.1 hy with hy | hy
      · exact hne y hy
      · simp at hy; subst hy; exact fun e' => e e'.symm
    · have : k = i := by omega
      subst this
      refine wr (by omega) (by have := h.len; omega) ⟨k + 1, rfl, ⟨by omega, nodup_snoc hi2 hnd hne, ?_, hc1, hE1⟩, by omega⟩
      intro x hx
      rw [List.take_succ_eq_append_getElem hi2] at hx
      rcases List.mem_append.1 hx with hx | hx
      · exact hrg x hx
      · simp at hx; subst hx; omega
  · have : i = xs.length := by omega
    subst this
    rw [List.take_length] at hnd hrg
    have hs : isSetS v xs := ⟨hnd, hrg⟩
    refine J_loop (F := F16) hmx L16_4 (fun i : Nat => [.int .i64 v, .slice a xs.length c, .slice (some (bl w.heap.size)) v.toNat v.toNat, .int .i64 i])
      (fun i W => i ≤ xs.length ∧ Cts W w.heap.size (some (bl w.heap.size)) v ((xs.take i).flatMap (difRow v xs)) ∧ Ext w W) (fun i _ => xs.length - i) 0 rfl ⟨by omega, by simpa using hc, hE⟩ ?_
    rintro i W ⟨hi, hc, hE⟩
    refine (T16_4 ..).mpr ?_
    simp only [P16_4]
    refine cnd_decide (fun hlt => ?_) (fun hge => ?_)
    · have hi2 : i < xs.length := by omega
      refine J_loop (F := F16) hmx L16_6 (fun k : Nat => [.int .i64 v, .slice a xs.length c, .slice (some (bl w.heap.size)) v.toNat v.toNat, .int .i64 i, .int .i64 k])
        (fun k W => k ≤ xs.length ∧ Cts W w.heap.size (some (bl w.heap.size)) v ((xs.take i).flatMap (difRow v xs) ++ (xs.take k).map (fun b => (xs[i] - b) % v)) ∧ Ext w W) (fun k _ => xs.length - k) 0 rfl ⟨by omega, by simpa using hc, hE⟩ ?_
      rintro k W1 ⟨hk, hc1, hE1⟩
      refine (T16_6 ..).mpr ?_
      simp only [P16_6, setA_again, if_true]
      refine cnd_decide (fun hklt => ?_) (fun hkge => ?_)
      · have hk2 : k < xs.length := by omega
        refine cnd_not (cnd_decide (fun e => ?_) (fun e => ?_))
        · have e' : i = k := by omega
          subst e'
          refine wr (by omega) (by have := h.len; omega) ⟨i + 1, rfl, ⟨by omega, ?_, hE1⟩, by omega⟩
          rw [difRow_take v xs i hk2, ← List.append_assoc, Int.sub_self, Int.zero_emod]
          exact hc1.skip
        · rintro w14 rfl
          have hE2 := hE1.trans (Ext.drew W1)
          refine ix (h.ext hE2) rfl (by omega) (by omega) (ix (h.ext hE2) rfl (by omega) (by omega) ?_)
          rw [gi_get hi2, gi_get hk2]
          have hx1 := hs.2 _ (List.getElem_mem hi2)
          have hx2 := hs.2 _ (List.getElem_mem hk2)
          refine wr (by omega) (by omega) (wr (by omega) (by omega) (rm (by omega) (by omega) ?_))
          rw [Int.add_emod_right]
          have hm := Int.emod_nonneg (xs[i] - xs[k]) (show v ≠ 0 by omega)
          have hm2 := Int.emod_lt_of_pos (xs[i] - xs[k]) (show 0 < v by omega)
          refine (hc1.ext (Ext.drew W1)).sto hm hm2 (dif_small v xs i k (by omega) (by omega) (by omega) _) fun W2 hc2 hg => wr (by omega) (by omega) ⟨k + 1, rfl, ⟨by omega, ?_, hE2.chg hg (by intro q hq; simp [obl] at hq; omega)⟩, by omega⟩
          rw [difRow_take v xs k hk2, ← List.append_assoc]
          exact hc2
      · have : k = xs.length := by omega
        subst this
        rw [List.take_length] at hc1
        refine wr (by omega) (by omega) ⟨i + 1, rfl, ⟨by omega, ?_, hE1⟩, by omega⟩
        rw [dif_take v xs i hi2]
        exact hc1
    · have : i = xs.length := by omega
      subst this
      rw [List.take_length] at hc
      change Cts W w.heap.size (some (bl w.heap.size)) v (dif v xs) at hc
      refine J_loop (F := F16) hmx L16_8 (fun n : Int => [.int .i64 v, .slice (some (bl w.heap.size)) v.toNat v.toNat, .int .i64 n])
        (fun n W => (2 ≤ n ∧ n ≤ v) ∧ (∀ r : Int, 1 ≤ r → r < n → (dif v xs).count r = (dif v xs).count 1) ∧ Cts W w.heap.size (some (bl w.heap.size)) v (dif v xs) ∧ Ext w W) (fun n _ => (v - n).toNat) 2 rfl ⟨by omega, fun r h1 h2 => by rw [show r = 1 by omega], hc, hE⟩ ?_
      rintro n W1 ⟨⟨hn, hn2⟩, hall, hc1, hE1⟩
      refine (T16_8 ..).mpr ?_
      simp only [P16_8, setA_ret, setA_again, retQ_ret, if_true]
      refine cnd_decide (fun hlt => ?_) (fun hge => ?_)
      · rintro w30 rfl
        have hE2 := hE1.trans (Ext.drew W1)
        have hc2 := hc1.ext (Ext.drew W1)
        refine hc2.get (by omega) hlt (hc2.get (by omega) (by omega) (cnd_not (cnd_decide (fun e => ?_) (fun e => no _ hE2 (difS_no (.inr fun hh => e ?_))))))
        · refine wr (by omega) (by omega) ⟨n + 1, rfl, ⟨by omega, fun r h1 h2 => ?_, hc2, hE2⟩, by omega⟩
          by_cases e2 : r = n
          · subst e2; omega
          · exact hall r h1 (by omega)
        · have := hh n (by omega) hlt
          omega
      · have : n = v := by omega
        subst this
        refine hc1.get (by omega) (by omega) ⟨?_, hE1⟩
        have hp := difS_pos (by omega) (by omega) hs hall
        rw [difS_yes (by rintro (h | h | h | h) <;> first | omega | exact h hs) (fun h => h.elim (fun h => hp h) (fun h => h hall))]
/-! ### Developments -/
theorem slt39 : SlT PR 39 25 (.slice none 0 0) 24 := ⟨by kernel_rfl, by kernel_rfl, rfl, by omega⟩
theorem rows_ok (w : World) (a b : Option Addr) (hs ks : List (Option Addr × Nat)) (xss yss : List (List Int)) (c d : Nat) (h : Ints2 w a hs xss) (k : Ints2 w b ks yss) :
    Fn PR 19 [.slice a xss.length c, .slice b yss.length d] w fun v w' => v = .bool (decide (xss = yss)) ∧ Ext w w' := by
  refine U19 ?_
  unfold P19_0
  refine cnd_not (cnd_decide (fun hl => ?_) (fun hl => ?_))
  · refine J_loop (F := F19) hmx L19_0 (fun i : Nat => [.slice a xss.length c, .slice b yss.length d, .int .i64 i]) (fun i w' => i ≤ xss.length ∧ xss.take i = yss.take i ∧ Ext w w') (fun i _ => xss.length - i) 0 rfl ⟨by omega, by simp, Ext.refl w⟩ ?_
    rintro i w1 ⟨hi, heq, hE⟩
    refine (T19_L0 ..).mpr ?_
    simp only [P19_L0, setA_ret, setA_again, retQ_ret, if_true]
    refine cnd_decide (fun hlt => ?_) (fun hge => ?_)
    · rintro w2 rfl
      have hE2 := hE.trans (Ext.drew w1)
      have hi1 : i < xss.length := by omega
      have hi2 : i < yss.length := by omega
      refine ix2 (i := i) (h.ext hE2) rfl rfl hi1 fun hh1 _ => ix2 (i := i) (k.ext hE2) rfl rfl hi2 fun hh2 _ => ?_
      refine (same_ok w1.drew _ _ _ _ _ _ (h.at hi1 hh1 _ hE2) (k.at hi2 hh2 _ hE2)).use ?_
      rintro _ w3 ⟨rfl, hE3⟩
      refine ⟨_, rfl, cnd_not (cnd_decide (fun e => ?_) (fun e => ?_))⟩
      · refine wr (by omega) (by have := h.small; omega) ⟨i + 1, rfl, ⟨by omega, ?_, hE2.trans hE3⟩, by omega⟩
        rw [List.take_succ_eq_append_getElem hi1, List.take_succ_eq_append_getElem hi2, heq, e]
      · refine ⟨?_, hE2.trans hE3⟩
        congr 1; rw [eq_comm, decide_eq_false_iff_not]
        intro e2; subst e2; exact e rfl
    · refine ⟨?_, hE⟩
      congr 1; rw [eq_comm, decide_eq_true_eq]
      have h1 : i = xss.length := by omega
      have h2 : i = yss.length := by omega
      rw [h1, List.take_length, ← h1, h2, List.take_length] at heq
      exact heq
  · refine ⟨?_, Ext.refl w⟩
    congr 1; rw [eq_comm, decide_eq_false_iff_not]
    intro e; subst e; exact hl rfl
def devRow (v : Int) (xs : List Int) (i : Nat) : List Int := sortI (xs.map fun a => (a + (i : Int)) % v)
def dev (v : Int) (xs : List Int) (n : Nat) : List (List Int) := (List.range n).map (devRow v xs)
open Classical in
noncomputable def devS (v : Int) (xs : List Int) : List (List Int) × Int := if v < 3 ∨ 200 < v ∨ xs.length = 0 ∨ ¬ isSetS v xs then ([], 1) else (dev v xs v.toNat, 0)
theorem devS_bad {v : Int} {xs : List Int} (h : v < 3 ∨ 200 < v ∨ xs.length = 0 ∨ ¬ isSetS v xs) : devS v xs = ([], 1) := by unfold devS; rw [if_pos h]
theorem devS_ok {v : Int} {xs : List Int} (h : ¬ (v < 3 ∨ 200 < v ∨ xs.length = 0 ∨ ¬ isSetS v xs)) : devS v xs = (dev v xs v.toNat, 0) := by unfold devS; rw [if_neg h]
theorem dev_succ (v : Int) (xs : List Int) (n : Nat) : dev v xs (n + 1) = dev v xs n ++ [devRow v xs n] := by simp [dev, List.range_succ]
/-- A result of rows, and an error. -/
def RowsE (w : World) (r : List (List Int) × Int) (v : Value) (w' : World) : Prop := (∃ a n c hs, v = .tuple #[.slice a n c, .int .i64 r.2] ∧ Own2 w' w.heap.size 25 3 a n c hs r.1) ∧ Ext w w'
theorem RowsE.fail {w W : World} {e : Int} {r : List (List Int) × Int} (h : r = ([], e)) (hE : Ext w W) : RowsE w r (.tuple #[.slice none 0 0, .int .i64 e]) W := ⟨⟨none, 0, 0, [], by rw [h], by rw [h]; exact Own2.nil _ _ _ _⟩, hE⟩
open Classical in
theorem develop_ok (w : World) (v : Int) (a : Option Addr) (xs : List Int) (c : Nat) (h : Ints w a xs) (hx : xs.length ≤ 100000000) :
    Fn PR 17 [.int .i64 v, .slice a xs.length c] w (RowsE w (devS v xs)) := by
  refine U17 ?_
  unfold P17_0
  refine cnd_decide (fun h3 => RowsE.fail (devS_bad (.inl h3)) (Ext.refl _)) (fun h3 => ?_)
  refine cnd_decide (fun h4 => RowsE.fail (devS_bad (.inr (.inl h4))) (Ext.refl _)) (fun h4 => ?_)
  refine cnd_decide (fun h5 => RowsE.fail (devS_bad (.inr (.inr (.inl (by omega))))) (Ext.refl _)) (fun h5 => ?_)
  refine (isSet_ok w v a xs c h hx).use ?_
  rintro _ w2 ⟨rfl, hE2⟩
  refine ⟨_, rfl, cnd_not (cnd_decide (fun hset => ?_) (fun h6 => RowsE.fail (devS_bad (.inr (.inr (.inr h6)))) hE2))⟩
  have hd := devS_ok (v := v) (xs := xs) (by rintro (h | h | h | h) <;> first | omega | exact h hset)
  refine J_loop (F := F17) hmx L17_0 (fun x : Nat × Option Addr × Nat × Nat × List (Option Addr × Nat) => [.int .i64 v, .slice a xs.length c, .slice x.2.1 x.2.2.1 x.2.2.2.1, .int .i64 v, .int .i64 x.1])
    (fun x W => x.1 ≤ v.toNat ∧ Own2 W w.heap.size 25 3 x.2.1 x.2.2.1 x.2.2.2.1 x.2.2.2.2 (dev v xs x.1) ∧ Ext w W) (fun x _ => v.toNat - x.1) (0, none, 0, 0, []) rfl ⟨by simp, Own2.nil _ _ _ _, hE2⟩ ?_
  rintro ⟨i, oa, on, oc, hs⟩ W ⟨hi, hown, hE⟩
  dsimp only at hi hown hE
  refine (T17_L0 ..).mpr ?_
  simp only [P17_L0, setA_ret, retQ_ret]
  refine cnd_decide (fun hlt => ?_) (fun hge => ?_)
  · refine J_loop (F := F17) hmx L17_2 (fun x : Nat × Option Addr × Nat × Nat => [.int .i64 v, .slice a xs.length c, .slice oa on oc, .int .i64 i, .slice x.2.1 x.2.2.1 x.2.2.2, .int .i64 v, .int .i64 i, .slice a xs.length c, .int .i64 xs.length, .int .i64 x.1])
      (fun x W1 => x.1 ≤ xs.length ∧ OwnR W1 W.heap.size 3 x.2.1 x.2.2.1 x.2.2.2 (ints ((xs.take x.1).map fun a => (a + (i : Int)) % v)) ∧ Ext W W1) (fun x _ => xs.length - x.1) (0, none, 0, 0) rfl ⟨by simp, OwnR.nil _ _ _, Ext.refl _⟩ ?_
    rintro ⟨k, ba, bn, bc⟩ W1 ⟨hk, hb, hE1⟩
    dsimp only at hk hb hE1
    refine (T17_2 ..).mpr ?_
    simp only [P17_2, setA_again, if_true]
    have hbn := ilenR hb
    refine cnd_decide (fun hklt => ?_) (fun hkge => ?_)
    · have hk2 : k < xs.length := by omega
      refine ix (h.ext (hE.trans hE1)) rfl (by omega) (by omega) ?_
      rw [gi_get hk2]
      have hx1 := hset.2 _ (List.getElem_mem hk2)
      refine wr (by omega) (by omega) (rm (by omega) (by omega) ?_)
      refine app1 slt25 hb hE1.size rfl (by simp at hbn; omega) fun b1 w1' a' c' W2 hown2 hg _ _ => ?_
      refine wr (by omega) (by omega) ⟨(k + 1, a', bn + 1, c'), rfl, ⟨by simp; omega, ?_, hE1.chg hg fun q hq => (hb.lt q hq).1⟩, by simp; omega⟩
      rw [List.take_succ_eq_append_getElem hk2, List.map_append]
      simpa [ints] using hown2
    · have : k = xs.length := by omega
      subst this
      rw [List.take_length] at hb hbn
      simp at hbn
      refine (sort_ok W1 _ ba bn bc _ hb (by omega)).use ?_
      rintro _ W2 ⟨rfl, hb2, hg2⟩
      refine ⟨rfl, ?_⟩
      have hE2' : Ext W W2 := hE1.chg hg2 fun q hq => (hb.lt q hq).1
      have hol := hown.ilen
      simp [dev] at hol
      refine hown.push slt39 hE.size hE2' hb2 (by omega) fun a' c' W3 hown3 hx3 => ?_
      refine wr (by omega) (by omega) ?_
      refine ⟨(i + 1, a', on + 1, c', hs ++ [(ba, bc)]), rfl, ⟨by simp; omega, ?_, Below.up hx3 (hE.trans hE2') (Nat.le_refl _)⟩, by simp; omega⟩
      rw [dev_succ]
      exact hown3
  · have : i = v.toNat := by omega
    subst this
    exact ⟨⟨oa, on, oc, hs, by rw [hd], by rw [hd]; exact hown⟩, hE⟩
/-- The reference's rows of a development. -/
def rdevRow (v : Int) (xs : List Int) (i : Nat) (n : Nat) : List Int := ((List.range n).map fun x : Nat => (x : Int)).filter fun x => decide ((x - (i : Int)) % v ∈ xs)
theorem rdevRow_succ (v : Int) (xs : List Int) (i n : Nat) : rdevRow v xs i (n + 1) = rdevRow v xs i n ++ (if ((n : Int) - (i : Int)) % v ∈ xs then [(n : Int)] else []) := by
  unfold rdevRow
  rw [List.range_succ, List.map_append, List.filter_append]
  congr 1
  by_cases h : ((n : Int) - (i : Int)) % v ∈ xs <;> simp [h]
theorem rdev_eq {v : Int} {xs : List Int} (h3 : 3 ≤ v) (hs : isSetS v xs) (i : Nat) (hi : (i : Int) < v) : rdevRow v xs i v.toNat = devRow v xs i := by
  refine rising_eq ?_ ?_ fun x => ?_
  · unfold rdevRow
    refine List.Pairwise.filter _ (List.pairwise_map.2 ?_)
    exact (List.pairwise_lt_range (n := v.toNat)).imp fun h => by omega
  · refine sortI_strict ?_
    refine List.pairwise_map.2 ?_
    refine (List.nodup_iff_pairwise_ne.1 hs.1).imp_of_mem fun {a b} ha hb hne e => hne ?_
    have h1 := hs.2 a ha
    have h2 := hs.2 b hb
    have e1 : (a + (i : Int)) % v = if a + i < v then a + i else a + i - v := by
      split
      · exact Int.emod_eq_of_lt (by omega) (by omega)
      · rw [← Int.sub_emod_right]; exact Int.emod_eq_of_lt (by omega) (by omega)
    have e2 : (b + (i : Int)) % v = if b + i < v then b + i else b + i - v := by
      split
      · exact Int.emod_eq_of_lt (by omega) (by omega)
      · rw [← Int.sub_emod_right]; exact Int.emod_eq_of_lt (by omega) (by omega)
    rw [e1, e2] at e
    split at e <;> split at e <;> omega
  · unfold devRow
    rw [(sortI_perm _).mem_iff]
    simp only [rdevRow, List.mem_filter, List.mem_map, List.mem_range, decide_eq_true_eq]
    constructor
    · rintro ⟨⟨n, hn, rfl⟩, hm⟩
      refine ⟨_, hm, ?_⟩
      rw [Int.emod_add_emod, Int.sub_add_cancel]
      exact Int.emod_eq_of_lt (by omega) (by omega)
    · rintro ⟨y, hy, rfl⟩
      have h1 := hs.2 y hy
      have hm := Int.emod_nonneg (y + i) (show v ≠ 0 by omega)
      have hm2 := Int.emod_lt_of_pos (y + i) (show 0 < v by omega)
      refine ⟨⟨((y + i) % v).toNat, by omega, by omega⟩, ?_⟩
      rw [Int.emod_sub_emod, Int.add_sub_cancel, Int.emod_eq_of_lt h1.1 h1.2]
      exact hy
open Classical in
theorem rdevelop_ok (w : World) (v : Int) (a : Option Addr) (xs : List Int) (c : Nat) (h : Ints w a xs) :
    Fn PR 18 [.int .i64 v, .slice a xs.length c] w (RowsE w (devS v xs)) := by
  refine U18 ?_
  unfold P18_0
  refine cnd_decide (fun h3 => RowsE.fail (devS_bad (.inl h3)) (Ext.refl _)) (fun h3 => ?_)
  refine cnd_decide (fun h4 => RowsE.fail (devS_bad (.inr (.inl h4))) (Ext.refl _)) (fun h4 => ?_)
  refine cnd_decide (fun h5 => RowsE.fail (devS_bad (.inr (.inr (.inl (by omega))))) (Ext.refl _)) (fun h5 => ?_)
  have hset : ¬ isSetS v xs → devS v xs = ([], 1) := fun h => devS_bad (.inr (.inr (.inr h)))
  refine J_loop (F := F18) hmx L18_0 (fun i : Nat => [.int .i64 v, .slice a xs.length c, .int .i64 i])
    (fun i W => i ≤ xs.length ∧ (xs.take i).Nodup ∧ (∀ x ∈ xs.take i, 0 ≤ x ∧ x < v) ∧ Ext w W) (fun i _ => xs.length - i) 0 rfl ⟨by omega, by simp, by simp, Ext.refl _⟩ ?_
  rintro i W ⟨hi, hnd, hrg, hE⟩
  refine (T18_L0 ..).mpr ?_
  simp only [P18_L0, setA_ret, retQ_ret]
  refine cnd_decide (fun hlt => ?_) (fun hge => ?_)
  · have hi2 : i < xs.length := by omega
    refine ix (h.ext hE) rfl (by omega) (by omega) ?_
    rw [gi_get hi2]
    refine cnd_decide (fun e => RowsE.fail (hset fun hs => ?_) hE) (fun e1 => ?_)
    · have := hs.2 _ (List.getElem_mem hi2); omega
    refine ix (h.ext hE) rfl (by omega) (by omega) ?_
    rw [gi_get hi2]
    refine cnd_decide (fun e => RowsE.fail (hset fun hs => ?_) hE) (fun e2 => ?_)
    · have := hs.2 _ (List.getElem_mem hi2); omega
    refine J_loop (F := F18) hmx L18_2 (fun k : Nat => [.int .i64 v, .slice a xs.length c, .int .i64 i, .int .i64 k])
      (fun k W => k ≤ i ∧ (∀ y ∈ xs.take k, y ≠ xs[i]) ∧ Ext w W) (fun k _ => i - k) 0 rfl ⟨by omega, by simp, hE⟩ ?_
    rintro k W1 ⟨hk, hne, hE1⟩
    refine (T18_2 ..).mpr ?_
    simp only [P18_2, setA_ret, setA_again, retQ_ret, if_true]
    refine cnd_decide (fun hklt => ?_) (fun hkge => ?_)
    · have hk2 : k < xs.length := by omega
      rintro w7 rfl
      have hE2 := hE1.trans (Ext.drew W1)
      refine ix (h.ext hE2) rfl (by omega) (by omega) (ix (h.ext hE2) rfl (by omega) (by omega) ?_)
      rw [gi_get hi2, gi_get hk2]
      refine cnd_decide (fun e => RowsE.fail (hset fun hs => not_nodup hi2 (by omega) e hs.1) hE2) (fun e => ?_)
      refine wr (by omega) (by have := h.len; omega) ⟨k + 1, rfl, ⟨by omega, fun y hy => ?_, hE2⟩, by omega⟩
      rw [List.take_succ_eq_append_getElem hk2] at hy
      rcases List.mem_append.1 hy with hy | hy
      · exact hne y hy
      · simp at hy; subst hy; exact fun e' => e e'.symm
    · have : k = i := by omega
      subst this
      refine wr (by omega) (by have := h.len; omega) ⟨k + 1, rfl, ⟨by omega, nodup_snoc hi2 hnd hne, ?_, hE1⟩, by omega⟩
      intro x hx
      rw [List.take_succ_eq_append_getElem hi2] at hx
      rcases List.mem_append.1 hx with hx | hx
      · exact hrg x hx
      · simp at hx; subst hx; omega
  · have : i = xs.length := by omega
    subst this
    rw [List.take_length] at hnd hrg
    have hs : isSetS v xs := ⟨hnd, hrg⟩
    have hd := devS_ok (v := v) (xs := xs) (by rintro (h | h | h | h) <;> first | omega | exact h hs)
    refine J_loop (F := F18) hmx L18_4 (fun x : Nat × Option Addr × Nat × Nat × List (Option Addr × Nat) => [.int .i64 v, .slice a xs.length c, .slice x.2.1 x.2.2.1 x.2.2.2.1, .int .i64 x.1])
      (fun x W => x.1 ≤ v.toNat ∧ Own2 W w.heap.size 25 3 x.2.1 x.2.2.1 x.2.2.2.1 x.2.2.2.2 (dev v xs x.1) ∧ Ext w W) (fun x _ => v.toNat - x.1) (0, none, 0, 0, []) rfl ⟨by simp, Own2.nil _ _ _ _, hE⟩ ?_
    rintro ⟨i, oa, on, oc, ks⟩ W ⟨hi, hown, hE⟩
    dsimp only at hi hown hE
    refine (T18_4 ..).mpr ?_
    simp only [P18_4, setA_ret, retQ_ret]
    refine cnd_decide (fun hlt => ?_) (fun hge => ?_)
    · refine J_loop (F := F18) hmx L18_6 (fun x : Nat × Option Addr × Nat × Nat => [.int .i64 v, .slice a xs.length c, .slice oa on oc, .int .i64 i, .slice x.2.1 x.2.2.1 x.2.2.2, .int .i64 x.1])
        (fun x W1 => x.1 ≤ v.toNat ∧ x.2.2.1 ≤ x.1 ∧ OwnR W1 W.heap.size 3 x.2.1 x.2.2.1 x.2.2.2 (ints (rdevRow v xs i x.1)) ∧ Ext W W1) (fun x _ => v.toNat - x.1) (0, none, 0, 0) rfl ⟨by simp, by simp, OwnR.nil _ _ _, Ext.refl _⟩ ?_
      rintro ⟨k, ba, bn, bc⟩ W1 ⟨hk, hbk, hb, hE1⟩
      dsimp only at hk hbk hb hE1
      refine (T18_6 ..).mpr ?_
      simp only [P18_6, setA_again, if_true]
      refine cnd_decide (fun hklt => ?_) (fun hkge => ?_)
      · refine wr (by omega) (by omega) (wr (by omega) (by omega) (rm (by omega) (by omega) ?_))
        rw [Int.add_emod_right]
        refine (has_ok W1 a xs c _ (h.ext (hE.trans hE1))).use ?_
        rintro _ _ ⟨rfl, rfl⟩
        have hsuc := rdevRow_succ v xs i k
        refine ⟨_, rfl, cnd_decide (fun hm => ?_) (fun hm => ?_)⟩
        · rw [if_pos hm] at hsuc
          refine app1 slt25 hb hE1.size rfl (by omega) fun b1 w1' a' c' W2 hown2 hg _ _ => ?_
          refine wr (by omega) (by omega) ⟨(k + 1, a', bn + 1, c'), rfl, ⟨by simp; omega, by simp; omega, ?_, hE1.chg hg fun q hq => (hb.lt q hq).1⟩, by simp; omega⟩
          rw [hsuc]
          simpa [ints] using hown2
        · rw [if_neg hm, List.append_nil] at hsuc
          refine wr (by omega) (by omega) ⟨(k + 1, ba, bn, bc), rfl, ⟨by simp; omega, by simp; omega, ?_, hE1⟩, by simp; omega⟩
          rw [hsuc]
          exact hb
      · have : k = v.toNat := by omega
        subst this
        rw [rdev_eq (by omega) hs i hlt] at hb
        have hol := hown.ilen
        simp [dev] at hol
        refine hown.push slt39 hE.size hE1 hb (by omega) fun a' c' W3 hown3 hx3 => ?_
        refine wr (by omega) (by omega) ⟨(i + 1, a', on + 1, c', ks ++ [(ba, bc)]), rfl, ⟨by simp; omega, ?_, Below.up hx3 (hE.trans hE1) (Nat.le_refl _)⟩, by simp; omega⟩
        rw [dev_succ]
        exact hown3
    · have : i = v.toNat := by omega
      subst this
      exact ⟨⟨oa, on, oc, ks, by rw [hd], by rw [hd]; exact hown⟩, hE⟩
end Go.Proofs.YthekpkamedjloaaGreat
