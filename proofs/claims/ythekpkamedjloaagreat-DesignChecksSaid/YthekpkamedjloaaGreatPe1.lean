import Derived.Test.YthekpkamedjloaaGreatQl1
import Derived.Test.YthekpkamedjloaaGreatVe
import Derived.Test.YthekpkamedjloaaGreatKr
namespace Go.Proofs.YthekpkamedjloaaGreat
open Go.RowKit
theorem Addr.add_zero (p : Addr) : p.add 0 = p := by simp [Addr.add]
theorem Row.take {w : World} {a : Option Addr} {vs : List Value} (h : Row w a vs) (n : Nat) : Row w a (vs.take n) := fun i hi => by
  simp at hi
  obtain ⟨p, hp, hc⟩ := h i (by omega)
  exact ⟨p, hp, by rw [hc]; simp⟩
theorem ints_take (xs : List Int) (n : Nat) : ints (xs.take n) = (ints xs).take n := by simp [ints]
theorem raw_ok (w : World) (a : Option Addr) (n c : Nat) (xs : List Int) (most : Nat) (hm : most ≤ 1000000) (h : SlI w a n c xs) :
    Fn PR 14 [.slice a n c, .int .i64 most] w fun v w' => (∃ a' n' c', v = .slice a' n' c' ∧ OwnR w' w.heap.size 3 a' n' c' (ints (xs.take most)) ∧ n' ≤ most) ∧ Ext w w' := by
  refine U14 ?_
  unfold P14_0
  have hcap := h.cap
  have hl := h.len
  obtain ⟨m, hmm, hm1⟩ : ∃ m : Nat, (if (most : Int) < ((n : Nat) : Int) then (most : Int) else ((n : Nat) : Int)) = (m : Nat) ∧ m = min most n := by
    refine ⟨min most n, ?_, rfl⟩
    split <;> omega
  rw [hmm]
  refine ⟨⟨by omega, by omega, by omega, by omega, by simp⟩, ?_⟩
  rw [show (m : Int).toNat - (0 : Int).toNat = m by simp, show (((c : Nat) : Int)).toNat - (0 : Int).toNat = c by simp]
  have hsub : (if (((c : Nat) : Int) : Int).toNat = (0 : Int).toNat then a else Option.map (fun x => x.add ((0 : Int).toNat * 1)) a) = a := by
    split
    · rfl
    · cases a <;> simp [Addr.add_zero]
  rw [hsub]
  refine appA slt25 (OwnR.nil w w.heap.size 3) (Nat.le_refl _) (news := ints (xs.take m)) (by rw [ints_take]; exact h.ints.row.take m) (by simp; omega) h.nil (by intro u hu; obtain ⟨x, _, rfl⟩ := List.mem_map.1 hu; rfl) (by omega) ?_
  intro a' c' w' hown hg
  refine ⟨⟨a', _, c', rfl, ?_, by omega⟩, Chg.ext hg⟩
  have : xs.take m = xs.take most := by
    rcases Nat.le_total most n with h1 | h1
    · rw [show m = most by omega]
    · rw [List.take_of_length_le (by omega), List.take_of_length_le (by omega)]
  rw [← this]
  simpa using hown
def encI (x : Int) : List Value := [.int .i64 x]
/-- slices.Values. -/
theorem values_ok (w : World) (a : Option Addr) (n c : Nat) : Fn PR 58 [.slice a n c] w fun v w' => (∃ b, v = .func (.func 77) #[] #[.pointer (some (bl b))] ∧ w.heap.size ≤ b ∧ Box w' b (.slice a n c)) ∧ Ext w w' := by
  refine U58 ?_
  unfold P58_0
  exact newBox fun b w' hb hE _ hbox => ⟨⟨b, rfl, by omega, hbox⟩, hE⟩
theorem values_iter (w : World) (a : Option Addr) (xs : List Int) (c b : Nat) (hb : Box w b (.slice a xs.length c)) (h : Ints w a xs) (I : List Int → World → Prop) (hI : ∀ pre W, I pre W → Ints W a xs) :
    Iter PR 77 [.pointer (some (bl b))] encI xs w Ext I := by
  intro l Jv Jx W hE hJI hJ hJx hY h0
  refine U77 ?_
  unfold P77_0
  refine ⟨_, _, _, hE.cell hb.cell, ?_⟩
  refine J_loop (F := F77) hmx L77_0 (fun k : Nat => [.func (.yield l) #[] #[], .slice a xs.length c, .int .i64 xs.length, .int .i64 k]) (fun k w' => k ≤ xs.length ∧ Jv (xs.take k) w') (fun k _ => xs.length - k) 0 rfl ⟨by omega, by simpa using h0⟩ ?_
  rintro k w1 ⟨hk, hj⟩
  refine (T77_L0 ..).mpr ?_
  simp only [P77_L0, setA_ret, setA_again, retQ_ret, if_true]
  refine cnd_decide (fun hlt => ?_) (fun hge => ?_)
  · have hk2 : k < xs.length := by omega
    have hpre : xs.take k ++ [xs[k]] <+: xs := by rw [← List.take_succ_eq_append_getElem hk2]; exact List.take_prefix _ _
    refine ix (hI _ _ (hJI _ _ hj)) rfl (by omega) (by omega) ?_
    rw [gi_get hk2]
    refine (hY (xs.take k) xs[k] w1 hpre hj).use ?_
    rintro v w2 (⟨rfl, hj2⟩ | ⟨rfl, hj2⟩)
    · refine ⟨_, rfl, cnd_not (cnd_true ?_)⟩
      refine wr (by omega) (by have := h.len; omega) ⟨k + 1, rfl, ⟨by omega, ?_⟩, by omega⟩
      rw [List.take_succ_eq_append_getElem hk2]
      exact hj2
    · exact ⟨_, rfl, cnd_not (cnd_false (.inr ⟨_, hj2⟩))⟩
  · have : k = xs.length := by omega
    subst this
    rw [List.take_length] at hj
    exact .inl hj
/-- slices.AppendSeq(nil, seq). -/
theorem appendSeq_ok (w : World) (g : FuncId) (lb : List Value) (xs : List Int) (hx : xs.length ≤ 100000000)
    (hit : ∀ w1 I, Ext w w1 → (∀ pre W, I pre W → Ext w W) → Iter PR g lb encI xs w1 Ext I) :
    Fn PR 107 [.slice none 0 0, .func (.func g) #[] lb.toArray] w fun v w' => (∃ a n c, v = .slice a n c ∧ OwnR w' w.heap.size 3 a n c (ints xs)) ∧ Ext w w' := by
  have hR : Holds w.heap.size (fun v w' => (∃ a n c, v = .slice a n c ∧ OwnR w' w.heap.size 3 a n c (ints xs)) ∧ Ext w w') := by
    rintro v w1 w2 ⟨⟨a, n, c, h1, h2⟩, h5⟩ ht
    exact ⟨⟨a, n, c, h1, Own.row _ _ _ _ _ _ _ h2 ht⟩, ht.ext h5 (Nat.le_refl _)⟩
  refine U107 hR ?_
  unfold P107_0
  refine newBox fun b w1 hb hE hs hbox => ?_
  refine J_rangeE (F := F107) hmx rfl L107_0 encI (fun _ => rfl) (lb := lb) rfl xs
    (fun pre W => ∃ a n c, Box W b (.slice a n c) ∧ OwnR W w.heap.size 3 a n c (ints pre) ∧ obl a ≠ some b ∧ Ext w W) (fun _ _ => False) (fun _ _ _ => False)
    (fun pre => Own.ex fun a => Own.ex fun n => Own.ex fun c => (Own.box _ _).and ((Own.row _ _ _ _ _).and ((Own.pure _).and (Own.ext hE.size)))) (fun _ => Own.false) (fun _ _ => Own.false)
    ⟨none, 0, 0, hbox, OwnR.nil _ _ _, by simp [obl], hE⟩ (hit w1 _ hE (fun pre W ⟨_, _, _, _, _, _, h⟩ => h)) ?_ ?_ (fun _ _ h => h.elim) (fun _ _ _ h => h.elim)
  · rintro pre x U hpre ⟨a, n, c, hbox', hown, hne, hE'⟩ _
    refine (T107_R0 ..).mpr ?_
    simp only [P107_R0, rndQ_fin]
    have hn : n = pre.length := by have := hown.len; simpa using this.symm
    have hpl := hpre.length_le
    simp at hpl
    refine ⟨_, _, _, hbox'.cell, app1 slt25 hown hE'.size rfl (by omega) ?_⟩
    intro b4 w5 a6 c7 w8 hown2 hg2 hbl2 _
    have hne2 : obl a6 ≠ some b := by
      rcases hbl2 with h | ⟨q, hq, hge⟩
      · rw [h]; exact hne
      · rw [hq]; intro e; cases e; have := hbox'.lt; omega
    refine (hbox'.keep hg2 hne).set fun U3 hbox3 hg3 => ⟨a6, n + 1, c7, hbox3, ?_, hne2, ?_⟩
    · have := OwnR.keep hown2 hg3 (.inr hne2)
      simpa [ints] using this
    · exact (hE'.chg hg2 (fun q hq => (hown.lt q hq).1)).chg hg3 (by intro q hq; cases hq; omega)
  · rintro U ⟨a, n, c, hbox', hown, hne, hE'⟩
    refine (T107_D0 ..).mpr ?_
    exact ⟨_, _, _, hbox'.cell, ⟨a, n, c, rfl, hown⟩, hE'⟩
theorem collect_ok (w : World) (g : FuncId) (lb : List Value) (xs : List Int) (hx : xs.length ≤ 100000000)
    (hit : ∀ w1 I, Ext w w1 → (∀ pre W, I pre W → Ext w W) → Iter PR g lb encI xs w1 Ext I) :
    Fn PR 76 [.func (.func g) #[] lb.toArray] w fun v w' => (∃ a n c, v = .slice a n c ∧ OwnR w' w.heap.size 3 a n c (ints xs)) ∧ Ext w w' := by
  refine U76 ?_
  unfold P76_0
  refine (appendSeq_ok w g lb xs hx hit).use ?_
  rintro v w1 ⟨⟨a, n, c, rfl, h⟩, hE⟩
  exact ⟨_, _, _, rfl, ⟨a, n, c, rfl, h⟩, hE⟩
theorem sorted_ok (w : World) (g : FuncId) (lb : List Value) (xs : List Int) (hx : xs.length ≤ 100000000)
    (hit : ∀ w1 I, Ext w w1 → (∀ pre W, I pre W → Ext w W) → Iter PR g lb encI xs w1 Ext I) :
    Fn PR 57 [.func (.func g) #[] lb.toArray] w fun v w' => (∃ a n c, v = .slice a n c ∧ OwnR w' w.heap.size 3 a n c (ints (sortI xs))) ∧ Ext w w' := by
  refine U57 ?_
  unfold P57_0
  refine (collect_ok w g lb xs hx hit).use ?_
  rintro v w1 ⟨⟨a, n, c, rfl, h⟩, hE⟩
  have hn : n = xs.length := by have := h.len; simpa using this.symm
  refine ⟨_, _, _, rfl, (sort_ok w1 _ a n c xs h (by omega)).use ?_⟩
  rintro v w2 ⟨rfl, h2, hg⟩
  exact ⟨rfl, ⟨a, n, c, rfl, h2⟩, hE.chg hg (fun q hq => (h.lt q hq).1)⟩
def isSetS (v : Int) (xs : List Int) : Prop := xs.Nodup ∧ ∀ x ∈ xs, 0 ≤ x ∧ x < v
open Classical in
theorem isSet_ok (w : World) (v : Int) (a : Option Addr) (xs : List Int) (c : Nat) (h : Ints w a xs) (hx : xs.length ≤ 100000000) : Fn PR 38 [.int .i64 v, .slice a xs.length c] w fun r w' => r = .bool (decide (isSetS v xs)) ∧ Ext w w' := by
  refine U38 ?_
  unfold P38_0
  refine (values_ok w a xs.length c).use ?_
  rintro _ w1 ⟨⟨b, rfl, hb, hbox⟩, hE1⟩
  refine ⟨_, _, _, rfl, (sorted_ok w1 77 [.pointer (some (bl b))] xs hx ?_).use ?_⟩
  · intro w2 I hE2 hI
    exact values_iter w2 a xs c b (hbox.ext hE2) (h.ext (hE1.trans hE2)) I (fun pre W hp => h.ext (hE1.trans (hI pre W hp)))
  · rintro _ w2 ⟨⟨a2, n2, c2, rfl, hown⟩, hE2⟩
    have hn2 : n2 = (sortI xs).length := by have := hown.len; simpa using this.symm
    have hl : (sortI xs).length = xs.length := (sortI_perm xs).length_eq
    refine ⟨_, _, _, rfl, ?_⟩
    rw [hn2]
    refine (rising_ok w2 a2 (sortI xs) c2 v (hown.ints (by omega))).use ?_
    rintro _ w3 ⟨rfl, rfl⟩
    refine ⟨_, rfl, ?_, hE1.trans hE2⟩
    congr 1
    refine decide_eq_decide.2 ⟨fun h => ⟨?_, fun x hx => h.2 x ((sortI_perm xs).mem_iff.2 hx)⟩, fun h => ⟨sortI_strict h.1, fun x hx => h.2 x ((sortI_perm xs).mem_iff.1 hx)⟩⟩
    refine (sortI_perm xs).nodup_iff.1 ?_
    exact h.1.imp fun hlt e => by omega
end Go.Proofs.YthekpkamedjloaaGreat
