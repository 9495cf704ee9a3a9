/- Difference sets: both counts. -/
import Derived.Test.YthekpkamedjloaaGreatPe1
import Derived.Test.YthekpkamedjloaaGreatKx
namespace Go.Proofs.YthekpkamedjloaaGreat
open Go.RowKit
/-! ### The library's ContainsFunc over ints -/
theorem indexFunc_ok {g : FuncId} {ff pp : Array Value} (p : Int → Bool) (I : World → Prop) (w : World) (a : Option Addr) (xs : List Int) (c : Nat) (hI : I w) (hIe : ∀ w w', I w → Ext w w' → I w')
    (hf : ∀ w x, I w → x ∈ xs → Fn PR g (ff.toList ++ [.int .i64 x] ++ pp.toList) w fun v w' => v = .bool (p x) ∧ Ext w w') (h : Ints w a xs) :
    Fn PR 59 [.slice a xs.length c, .func (.func g) ff pp] w fun v w' => (∃ i : Int, v = .int .i64 i ∧ (0 ≤ i ↔ ∃ x ∈ xs, p x = true)) ∧ Ext w w' := by
  refine U59 ?_
  unfold P59_0
  refine J_loop (F := F59) hmx L59_0 (fun k : Nat => [.slice a xs.length c, .func (.func g) ff pp, .int .i64 xs.length, .int .i64 k]) (fun k w' => k ≤ xs.length ∧ Ext w w' ∧ I w' ∧ ∀ x ∈ xs.take k, p x = false) (fun k _ => xs.length - k) 0 rfl ⟨by omega, Ext.refl w, hI, by simp⟩ ?_
  rintro k w1 ⟨hk, he, hI1, hall⟩
  refine (T59_L0 ..).mpr ?_
  simp only [P59_L0, setA_ret, setA_again, retQ_ret, if_true]
  refine cnd_decide (fun hlt => ?_) (fun hge => ?_)
  · have hk2 : k < xs.length := by omega
    refine ix (h.ext he) rfl (by omega) (by omega) ?_
    rw [gi_get hk2]
    refine (hf w1 xs[k] hI1 (List.getElem_mem hk2)).use ?_
    rintro v w2 ⟨rfl, he2⟩
    refine ⟨_, rfl, cnd_mk (fun hp => ?_) (fun hp => ?_)⟩
    · refine ⟨⟨k, rfl, ?_⟩, he.trans he2⟩
      exact ⟨fun _ => ⟨_, List.getElem_mem hk2, hp⟩, fun _ => by omega⟩
    · refine wr (by omega) (by have := h.len; omega) ⟨k + 1, rfl, ⟨by omega, he.trans he2, hIe _ _ hI1 he2, ?_⟩, by omega⟩
      intro x hx
      rw [List.take_succ_eq_append_getElem hk2] at hx
      rcases List.mem_append.1 hx with hx | hx
      · exact hall x hx
      · simp at hx; subst hx; exact hp
  · refine ⟨⟨-1, rfl, ?_⟩, he⟩
    have : k = xs.length := by omega
    subst this
    rw [List.take_length] at hall
    exact ⟨fun h => by omega, fun ⟨x, hx, hp⟩ => by rw [hall x hx] at hp; cases hp⟩
theorem containsFunc_ok {g : FuncId} {ff pp : Array Value} (p : Int → Bool) (I : World → Prop) (w : World) (a : Option Addr) (xs : List Int) (c : Nat) (hI : I w) (hIe : ∀ w w', I w → Ext w w' → I w')
    (hf : ∀ w x, I w → x ∈ xs → Fn PR g (ff.toList ++ [.int .i64 x] ++ pp.toList) w fun v w' => v = .bool (p x) ∧ Ext w w') (h : Ints w a xs) :
    Fn PR 39 [.slice a xs.length c, .func (.func g) ff pp] w fun v w' => v = .bool (xs.any p) ∧ Ext w w' := by
  refine U39 ?_
  unfold P39_0
  refine (indexFunc_ok p I w a xs c hI hIe hf h).use ?_
  rintro v w1 ⟨⟨i, rfl, hi⟩, he⟩
  refine ⟨i, rfl, ?_, he⟩
  congr 1
  rw [Bool.eq_iff_iff]
  simp [hi]
/-! ### Differences -/
def difRow (v : Int) (xs : List Int) (a : Int) : List Int := xs.map fun b => (a - b) % v
def dif (v : Int) (xs : List Int) : List Int := xs.flatMap (difRow v xs)
open Classical in
noncomputable def difS (v : Int) (xs : List Int) : Int × Bool :=
  if v < 3 ∨ 10000 < v ∨ v ≤ xs.length ∨ ¬ isSetS v xs then (0, false)
  else if (dif v xs).count 1 = 0 ∨ ¬ ∀ r : Int, 1 ≤ r → r < v → (dif v xs).count r = (dif v xs).count 1 then (0, false) else ((((dif v xs).count 1 : Nat) : Int), true)
/-- A table that counts numbers below v; at 0 it may count otherwise. -/
structure Cts (W : World) (B : Nat) (a : Option Addr) (v : Int) (Ps : List Int) : Prop where
  ex : ∃ vs : List Int, OwnR W B 3 a v.toNat v.toNat (ints vs) ∧ (∀ x ∈ vs, 0 ≤ x ∧ x ≤ (Ps.length : Nat)) ∧ ∀ r : Nat, 1 ≤ r → r < v.toNat → vs[r]? = some ((Ps.count (r : Int) : Nat) : Int)
theorem Cts.ext {W W' : World} {B : Nat} {a : Option Addr} {v : Int} {Ps : List Int} (h : Cts W B a v Ps) (hE : Ext W W') : Cts W' B a v Ps :=
  let ⟨vs, h1, h2⟩ := h.ex; ⟨vs, h1.ext hE, h2⟩
theorem Cts.keep {W W' : World} {B : Nat} {a : Option Addr} {v : Int} {Ps : List Int} {b : Option Nat} (h : Cts W B a v Ps) (hg : Chg W W' b) (hne : obl a = none ∨ obl a ≠ b) : Cts W' B a v Ps :=
  let ⟨vs, h1, h2⟩ := h.ex; ⟨vs, h1.keep hg hne, h2⟩
theorem Cts.made {W : World} {B : Nat} {v : Int} (hB : B ≤ W.heap.size) (hm : v ≤ 10000) : Cts (W.alloc (.cells (Array.replicate v.toNat (.int .i64 0)) 3)) B (some (bl W.heap.size)) v [] := by
  refine ⟨List.replicate v.toNat 0, ?_, fun x hx => by rw [(List.mem_replicate.1 hx).2]; simp, fun r h1 h2 => ?_⟩
  · have := OwnR.made (w := W) (B := B) (e := 3) (.int .i64 0) v.toNat hB (by omega)
    simpa [ints] using this
  · rw [List.getElem?_replicate, if_pos h2]; simp
theorem Cts.skip {W : World} {B : Nat} {a : Option Addr} {v : Int} {Ps : List Int} (h : Cts W B a v Ps) : Cts W B a v (Ps ++ [0]) := by
  obtain ⟨vs, h1, h2, h3⟩ := h.ex
  refine ⟨vs, h1, fun x hx => by have := h2 x hx; simp; omega, fun r hr hr2 => ?_⟩
  rw [h3 r hr hr2, List.count_append, List.count_singleton, if_neg (by simp; omega)]
  simp
theorem Cts.sto {W : World} {B : Nat} {a : Option Addr} {v r : Int} {Ps : List Int} {K : World → Prop} (h : Cts W B a v Ps) (h0 : 0 ≤ r) (h1 : r < v) (hl : Ps.length ≤ 1000000000) (hk : ∀ W', Cts W' B a v (Ps ++ [r]) → Chg W W' (obl a) → K W') :
    0 ≤ r ∧ r < ((v.toNat : Nat) : Int) ∧ ∃ p, a = some p ∧ ∃ x, W.cell? (p.add (r.toNat * 1)) = some (.int .i64 x) ∧ ∃ q, IntKind.i64.wrap (x + 1) = q ∧ 0 ≤ r ∧ r < ((v.toNat : Nat) : Int) ∧ ∃ p, a = some p ∧ sto W (p.add (r.toNat * 1)) (.int .i64 q) K := by
  obtain ⟨vs, k1, k2, k3⟩ := h.ex
  have hlen := ilenR k1
  have hr : r.toNat < vs.length := by omega
  obtain ⟨p, hp, hc⟩ := k1.row r.toNat (by simpa using hr)
  have hb := k2 _ (List.getElem_mem hr)
  refine ⟨h0, by omega, p, hp, vs[r.toNat], by rw [Nat.mul_one, hc]; simp [ints], wr (by omega) (by omega) ⟨h0, by omega, p, hp, ?_⟩⟩
  rw [Nat.mul_one]
  refine OwnR.sto k1 hp (by omega) fun W' h4 hg => hk W' ⟨vs.set r.toNat (vs[r.toNat] + 1), by simpa [ints, List.map_set] using h4, fun x hx => ?_, fun s hs hs2 => ?_⟩ hg
  · rcases List.mem_or_eq_of_mem_set hx with hx | rfl
    · have := k2 x hx; simp; omega
    · simp; omega
  · rw [List.count_append, List.count_singleton]
    by_cases e : r.toNat = s
    · subst e
      rw [List.getElem?_set_self hr, if_pos (by simp; omega)]
      have := k3 r.toNat hs hs2
      rw [List.getElem?_eq_getElem hr] at this
      simp at this
      rw [this]
      simp
    · rw [List.getElem?_set_ne e, k3 s hs hs2, if_neg (by simp; omega)]
      simp
theorem Cts.get {W : World} {B : Nat} {a : Option Addr} {v r : Int} {Ps : List Int} {K : Int → Prop} (h : Cts W B a v Ps) (h0 : 1 ≤ r) (h1 : r < v) (hk : K (Ps.count r : Nat)) :
    0 ≤ r ∧ r < ((v.toNat : Nat) : Int) ∧ ∃ p, a = some p ∧ ∃ x, W.cell? (p.add (r.toNat * 1)) = some (.int .i64 x) ∧ K x := by
  obtain ⟨vs, k1, k2, k3⟩ := h.ex
  have hlen := ilenR k1
  have hr : r.toNat < vs.length := by omega
  obtain ⟨p, hp, hc⟩ := k1.row r.toNat (by simpa using hr)
  have := k3 r.toNat (by omega) (by omega)
  rw [Int.toNat_of_nonneg (by omega)] at this
  rw [List.getElem?_eq_getElem hr] at this
  simp at this
  exact ⟨by omega, by omega, p, hp, ((Ps.count r : Nat) : Int), by rw [Nat.mul_one, hc]; simp [ints, this], hk⟩
theorem difRow_take (v : Int) (xs : List Int) (k : Nat) (hk : k < xs.length) (a : Int) : (xs.take (k + 1)).map (fun b => (a - b) % v) = (xs.take k).map (fun b => (a - b) % v) ++ [(a - xs[k]) % v] := by
  rw [List.take_succ_eq_append_getElem hk, List.map_append, List.map_cons, List.map_nil]
theorem dif_take (v : Int) (xs : List Int) (i : Nat) (hi : i < xs.length) : (xs.take (i + 1)).flatMap (difRow v xs) = (xs.take i).flatMap (difRow v xs) ++ difRow v xs xs[i] := by
  rw [List.take_succ_eq_append_getElem hi, List.flatMap_append, List.flatMap_cons, List.flatMap_nil, List.append_nil]
theorem dif_len (v : Int) (xs : List Int) (i : Nat) (hi : i ≤ xs.length) : ((xs.take i).flatMap (difRow v xs)).length ≤ i * xs.length := by
  induction i with
  | zero => simp
  | succ i ih =>
    rw [dif_take v xs i (by omega), List.length_append, Nat.succ_mul]
    have := ih (by omega)
    simp [difRow] at *
    omega
theorem dif_small (v : Int) (xs : List Int) (i k : Nat) (hi : i ≤ xs.length) (hk : k ≤ xs.length) (hx : xs.length ≤ 10000) (a : Int) : ((xs.take i).flatMap (difRow v xs) ++ (xs.take k).map (fun b => (a - b) % v)).length ≤ 1000000000 := by
  have h1 := dif_len v xs i hi
  have h2 : i * xs.length ≤ 10000 * 10000 := Nat.mul_le_mul (by omega) hx
  simp
  simp at h1
  omega
theorem difS_bad {v : Int} {xs : List Int} (h : v < 3 ∨ 10000 < v ∨ v ≤ xs.length ∨ ¬ isSetS v xs) : difS v xs = (0, false) := by unfold difS; rw [if_pos h]
theorem difS_no {v : Int} {xs : List Int} (h : (dif v xs).count 1 = 0 ∨ ¬ ∀ r : Int, 1 ≤ r → r < v → (dif v xs).count r = (dif v xs).count 1) : difS v xs = (0, false) := by
  unfold difS
  by_cases h1 : v < 3 ∨ 10000 < v ∨ v ≤ xs.length ∨ ¬ isSetS v xs
  · rw [if_pos h1]
  · rw [if_neg h1, if_pos h]
theorem difS_yes {v : Int} {xs : List Int} (h1 : ¬ (v < 3 ∨ 10000 < v ∨ v ≤ xs.length ∨ ¬ isSetS v xs)) (h : ¬ ((dif v xs).count 1 = 0 ∨ ¬ ∀ r : Int, 1 ≤ r → r < v → (dif v xs).count r = (dif v xs).count 1)) : difS v xs = ((((dif v xs).count 1 : Nat) : Int), true) := by
  unfold difS; rw [if_neg h1, if_neg h]
open Classical in
theorem isDifference_ok (w : World) (v : Int) (a : Option Addr) (xs : List Int) (c : Nat) (h : Ints w a xs) (hx : xs.length ≤ 100000000) :
    Fn PR 15 [.int .i64 v, .slice a xs.length c] w fun r w' => r = .tuple #[.int .i64 (difS v xs).1, .bool (difS v xs).2] ∧ Ext w w' := by
  refine U15 ?_
  unfold P15_0
  refine newBox fun b1 w1 hb1 hE1 hs1 hbox => ?_
  have no : ∀ W x, Box W b1 x → Ext w W → difS v xs = (0, false) → sto W (bl b1) (.int .i64 0) fun w3 => ∃ x4, w3.cell? (bl b1) = some (.int .i64 x4) ∧ retQ (fun r w' => r = .tuple #[.int .i64 (difS v xs).1, .bool (difS v xs).2] ∧ Ext w w') .ret [.tuple #[.int .i64 x4, .bool false]] w3 := by
    intro W x hb hE hd
    refine hb.set fun W' hb' hg => ⟨0, hb'.cell, ?_, hE.chg hg (by intro k hk; cases hk; omega)⟩
    rw [hd]
  refine cnd_decide (fun h3 => no _ _ hbox hE1 (difS_bad (.inl h3))) (fun h3 => ?_)
  refine cnd_decide (fun h4 => no _ _ hbox hE1 (difS_bad (.inr (.inl h4)))) (fun h4 => ?_)
  refine cnd_decide (fun h5 => no _ _ hbox hE1 (difS_bad (.inr (.inr (.inl h5))))) (fun h5 => ?_)
  refine (isSet_ok w1 v a xs c (h.ext hE1) hx).use ?_
  rintro _ w2 ⟨rfl, hE2⟩
  refine ⟨_, rfl, cnd_not (cnd_decide (fun hset => ?_) (fun h6 => no _ _ (hbox.ext hE2) (hE1.trans hE2) (difS_bad (.inr (.inr (.inr h6))))))⟩
  refine ⟨⟨by omega, by omega, by omega, by omega⟩, ?_⟩
  rintro b3 w3 rfl rfl
  have hc0 : Cts (w2.alloc (.cells (Array.replicate v.toNat (.int .i64 0)) 3)) w.heap.size (some (bl w2.heap.size)) v [] := Cts.made (Nat.le_trans hE1.size hE2.size) (by omega)
  have hE3 : Ext w (w2.alloc (.cells (Array.replicate v.toNat (.int .i64 0)) 3)) := (hE1.trans hE2).trans (Ext.alloc _ _)
  have hbox3 := (hbox.ext hE2).ext (Ext.alloc w2 (.cells (Array.replicate v.toNat (.int .i64 0)) 3))
  have hb12 : b1 < w2.heap.size := (hbox.ext hE2).lt
  have hww : w.heap.size ≤ w2.heap.size := Nat.le_trans hE1.size hE2.size
  generalize w2.heap.size = b3 at *
  generalize w2.alloc (.cells (Array.replicate v.toNat (.int .i64 0)) 3) = w3 at *
  have hbad := fun hn => difS_no (v := v) (xs := xs) hn
  have hyes := fun hn => difS_yes (v := v) (xs := xs) (by rintro (h | h | h | h) <;> first | omega | exact h hset) hn
  refine J_loop (F := F15) hmx L15_0 (fun i : Nat => [.int .i64 v, .slice a xs.length c, .pointer (some (bl b1)), .slice (some (bl b3)) v.toNat v.toNat, .slice a xs.length c, .int .i64 xs.length, .int .i64 i])
    (fun i W => i ≤ xs.length ∧ Cts W w.heap.size (some (bl b3)) v ((xs.take i).flatMap (difRow v xs)) ∧ Box W b1 (.int .i64 0) ∧ Ext w W) (fun i _ => xs.length - i) 0 rfl ⟨by omega, by simpa using hc0, hbox3, hE3⟩ ?_
  rintro i W ⟨hi, hc, hb, hE⟩
  refine (T15_L0 ..).mpr ?_
  simp only [P15_L0]
  refine cnd_decide (fun hlt => ?_) (fun hge => ?_)
  · have hi2 : i < xs.length := by omega
    refine ix (h.ext hE) rfl (by omega) (by omega) ?_
    rw [gi_get hi2]
    refine J_loop (F := F15) hmx L15_2 (fun k : Nat => [.int .i64 v, .slice a xs.length c, .pointer (some (bl b1)), .slice (some (bl b3)) v.toNat v.toNat, .int .i64 xs[i], .slice a xs.length c, .int .i64 xs.length, .int .i64 i, .slice a xs.length c, .int .i64 xs.length, .int .i64 k])
      (fun k W => k ≤ xs.length ∧ Cts W w.heap.size (some (bl b3)) v ((xs.take i).flatMap (difRow v xs) ++ (xs.take k).map (fun b => (xs[i] - b) % v)) ∧ Box W b1 (.int .i64 0) ∧ Ext w W) (fun k _ => xs.length - k) 0 rfl ⟨by omega, by simpa using hc, hb, hE⟩ ?_
    rintro k W1 ⟨hk, hc1, hb1', hE1'⟩
    refine (T15_2 ..).mpr ?_
    simp only [P15_2, setA_again, if_true]
    refine cnd_decide (fun hklt => ?_) (fun hkge => ?_)
    · have hk2 : k < xs.length := by omega
      refine ix (h.ext hE1') rfl (by omega) (by omega) ?_
      rw [gi_get hk2]
      have hx1 := hset.2 _ (List.getElem_mem hi2)
      have hx2 := hset.2 _ (List.getElem_mem hk2)
      refine wr (by omega) (by omega) (wr (by omega) (by omega) (rm (by omega) (by omega) ?_))
      rw [Int.add_emod_right]
      have hm := Int.emod_nonneg (xs[i] - xs[k]) (show v ≠ 0 by omega)
      have hm2 := Int.emod_lt_of_pos (xs[i] - xs[k]) (show 0 < v by omega)
      refine hc1.sto hm hm2 (dif_small v xs i k (by omega) (by omega) (by omega) _) fun W2 hc2 hg => wr (by omega) (by omega) ⟨k + 1, rfl, ⟨by omega, ?_, hb1'.keep hg (by simp [obl]; omega), hE1'.chg hg (by intro q hq; simp [obl] at hq; omega)⟩, by omega⟩
      rw [difRow_take v xs k hk2, ← List.append_assoc]
      exact hc2
    · have : k = xs.length := by omega
      subst this
      rw [List.take_length] at hc1
      refine wr (by omega) (by omega) ⟨i + 1, rfl, ⟨by omega, ?_, hb1', hE1'⟩, by omega⟩
      rw [dif_take v xs i hi2]
      exact hc1
  · have : i = xs.length := by omega
    subst this
    rw [List.take_length] at hc
    change Cts W w.heap.size (some (bl b3)) v (dif v xs) at hc
    have e1 : difS v xs = (0, false) → ∀ W' x, Box W' b1 x → Ext w W' → sto W' (bl b1) (.int .i64 0) fun w3 => ∃ x4, w3.cell? (bl b1) = some (.int .i64 x4) ∧ retQ (fun r w' => r = .tuple #[.int .i64 (difS v xs).1, .bool (difS v xs).2] ∧ Ext w w') .ret [.tuple #[.int .i64 x4, .bool false]] w3 := fun hd W' x hb hE => no W' x hb hE hd
    simp only [setA_ret]
    refine hc.get (by omega) (by omega) (hb.set fun W1 hb1' hg => ⟨_, hb1'.cell, ?_⟩)
    have hE1' : Ext w W1 := hE.chg hg (by intro q hq; cases hq; omega)
    have hc1 := hc.keep hg (.inr (by simp [obl]; omega))
    refine cnd_decide (fun h0 => e1 (hbad (.inl (by omega))) _ _ hb1' hE1') (fun h0 => ?_)
    refine ⟨⟨by omega, by omega, by omega, by omega, by simp⟩, ?_⟩
    obtain ⟨vs, k1, k2, k3⟩ := hc1.ex
    have hvl := ilenR k1
    have hsub : ∀ W', Ext W1 W' → Ints W' (if (((v.toNat : Nat) : Int) : Int).toNat = (1 : Int).toNat then some (bl b3) else Option.map (fun x => x.add ((1 : Int).toNat * 1)) (some (bl b3))) (vs.drop 1) := by
      intro W' hE'
      rw [if_neg (by simp; omega)]
      refine ⟨fun m hm => ?_, by simp; omega⟩
      simp at hm
      obtain ⟨p, hp, hcc⟩ := (k1.ext hE').row (m + 1) (by simp; omega)
      cases hp
      refine ⟨_, rfl, ?_⟩
      rw [show ((1 : Int).toNat * 1) = 1 from rfl, bl_add2, Nat.add_comm 1 m, hcc]
      simp [ints, Nat.add_comm]
    generalize (if (((v.toNat : Nat) : Int) : Int).toNat = (1 : Int).toNat then some (bl b3) else Option.map (fun x => x.add ((1 : Int).toNat * 1)) (some (bl b3))) = sa at *
    have hvd : (((v.toNat : Nat) : Int)).toNat - (1 : Int).toNat = (vs.drop 1).length := by simp; omega
    rw [hvd]
    refine (containsFunc_ok (fun n => !decide (n = ((dif v xs).count 1 : Nat))) (fun W' => Box W' b1 (.int .i64 ((dif v xs).count 1 : Nat)) ∧ Ext w W') W1 sa (vs.drop 1) _ ⟨hb1', hE1'⟩ (fun _ _ h he => ⟨h.1.ext he, h.2.trans he⟩) (fun W' x hW' _ => ?_) (hsub W1 (Ext.refl _))).use ?_
    · refine U40 ?_
      exact ⟨_, hW'.1.cell, rfl, Ext.refl _⟩
    · rintro _ W2 ⟨rfl, hE2'⟩
      refine ⟨_, rfl, ?_⟩
      have hall : ((vs.drop 1).any fun n => !decide (n = ((dif v xs).count 1 : Nat))) = false ↔ ∀ r : Int, 1 ≤ r → r < v → (dif v xs).count r = (dif v xs).count 1 := by
        rw [List.any_eq_false]
        constructor
        · intro hh r hr hr2
          have h1 := k3 r.toNat (by omega) (by omega)
          rw [Int.toNat_of_nonneg (by omega)] at h1
          obtain ⟨hj, hj2⟩ := List.getElem?_eq_some_iff.1 h1
          have := hh vs[r.toNat] (by
            rw [List.mem_iff_getElem]
            exact ⟨r.toNat - 1, by simp; omega, by simp; congr 1; omega⟩)
          simp at this
          omega
        · intro hh x hx
          obtain ⟨m, hm, rfl⟩ := List.getElem_of_mem hx
          simp at hm
          have h1 := k3 (m + 1) (by omega) (by omega)
          obtain ⟨hj, hj2⟩ := List.getElem?_eq_some_iff.1 h1
          have h2 := hh ((m + 1 : Nat) : Int) (by omega) (by omega)
          rw [h2] at hj2
          simp [hj2]
      refine cnd_mk (fun hb => e1 (hbad (.inr fun hh => ?_)) _ _ (hb1'.ext hE2') (hE1'.trans hE2')) (fun hb => ?_)
      · rw [hall.2 hh] at hb; cases hb
      · have hd := hyes (by rintro (h | h); · omega
                            · exact h (hall.1 hb))
        refine ⟨_, (hb1'.ext hE2').cell, (hb1'.ext hE2').set fun W3 hb3 hg3 => ⟨_, hb3.cell, ?_, (hE1'.trans hE2').chg hg3 (by intro q hq; cases hq; omega)⟩⟩
        rw [hd]
end Go.Proofs.YthekpkamedjloaaGreat
