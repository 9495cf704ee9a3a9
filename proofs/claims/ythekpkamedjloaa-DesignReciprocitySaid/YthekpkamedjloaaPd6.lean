import Derived.Test.YthekpkamedjloaaPd5
namespace Go.Proofs.Ythekpkamedjloaa
open Go.RowKit
theorem rising_len : ∀ {l : List Int} {lo hi : Int}, l.Pairwise (· < ·) → (∀ x ∈ l, lo < x ∧ x ≤ hi) → lo ≤ hi → (l.length : Int) ≤ hi - lo
  | [], lo, hi, _, _, h => by simp; omega
  | x :: l, lo, hi, hp, hb, h => by
    obtain ⟨h1, h2⟩ := List.pairwise_cons.1 hp
    have hx := hb x (List.mem_cons_self ..)
    have := rising_len (lo := x) (hi := hi) h2 (fun y hy => ⟨h1 y hy, (hb y (List.mem_cons_of_mem _ hy)).2⟩) hx.2
    simp only [List.length_cons]
    push_cast
    omega
/-- What places holds in its variable 'out'. -/
structure PlI (w : World) (b3 b6 : Nat) (a b : Int) (W : World) (p : Option Addr) (n c : Nat) (xs : List Int) : Prop where
  box : Box W b3 (.slice p n c)
  own : OwnR W w.heap.size 3 p n c (ints xs)
  ne3 : obl p ≠ some b3
  ne6 : obl p ≠ some b6
  six : Ints W (some (bl b6)) [a, b]
  ext : Ext w W
  nd : xs.Nodup
theorem PlI.turn {w : World} {b3 b6 : Nat} {a b : Int} {W W' : World} {p : Option Addr} {n c : Nat} {xs : List Int} {B : Nat} (h : PlI w b3 b6 a b W p n c xs) (hB : w.heap.size ≤ B) (ht : Turn B W W') : PlI w b3 b6 a b W' p n c xs :=
  ⟨Own.box _ _ _ _ h.box ht, Own.row _ _ _ _ _ _ _ h.own ht, h.ne3, h.ne6, Own.ints _ _ _ _ h.six ht, ht.ext h.ext hB, h.nd⟩
open Classical in
theorem places_ok (w : World) (a b : Int) (ha : a ≠ 0) (hb : b ≠ 0) (ha2 : a.natAbs ≤ 1000000) (hb2 : b.natAbs ≤ 1000000) :
    Fn PR 11 [.int .i64 a, .int .i64 b] w fun v w' => (∃ p n c xs, v = .slice p n c ∧ OwnR w' w.heap.size 3 p n c (ints xs) ∧ plcS a b xs ∧ n ≤ 10000000) ∧ Ext w w' := by
  have hR : Holds w.heap.size (fun v w' => (∃ p n c xs, v = .slice p n c ∧ OwnR w' w.heap.size 3 p n c (ints xs) ∧ plcS a b xs ∧ n ≤ 10000000) ∧ Ext w w') := by
    rintro v w1 w2 ⟨⟨p, n, c, xs, h1, h2, h3, h4⟩, h5⟩ ht
    exact ⟨⟨p, n, c, xs, h1, Own.row _ _ _ _ _ _ _ h2 ht, h3, h4⟩, ht.ext h5 (Nat.le_refl _)⟩
  refine U11 hR ?_
  unfold P11_0
  refine newRow (B := w.heap.size) 2 rfl (Nat.le_refl _) (by omega) fun b1 w1 hb1 hE1 hs1 h1 => ?_
  refine newBox fun b3 w3 hb3 hE3 hs3 hbox3 => ?_
  refine hbox3.set fun w5 hbox5 hg5 => ?_
  have hs5 := hg5.size
  have h5 := (h1.ext hE3).keep hg5 (.inr (by simp [obl]; omega))
  have hE5 : Ext w w5 := (hE1.trans hE3).chg hg5 (by intro k hk; cases hk; omega)
  refine newRow (B := w.heap.size) 2 rfl (by omega) (by omega) fun b6 w6 hb6 hE6 hs6 h6 => ?_
  have hI0 : PlI w b3 b6 a b w6 (some (bl b1)) 2 2 [-1, 2] :=
    ⟨hbox5.ext hE6, h5.ext hE6, by simp [obl]; omega, by simp [obl]; omega, OwnR.ints (xs := [a, b]) h6 (by omega), hE5.trans hE6, by simp⟩
  have hlt : b6 < w6.heap.size := by omega
  have hb36 : b3 < b6 := by omega
  have hb3w : w.heap.size ≤ b3 := by omega
  clear h6 hs6 hE6 h5 hs5 hbox5 hg5 hE5 hbox3 hs3 hE3 hb6
  refine J_loop (F := F11) hmx L11_0 (fun k : Nat => [.pointer (some (bl b3)), .slice (some (bl b6)) 2 2, .int .i64 ((2 : Nat) : Int), .int .i64 k])
    (fun k W => k ≤ 2 ∧ b6 < W.heap.size ∧ ∃ p n c xs, PlI w b3 b6 a b W p n c xs ∧ n ≤ 2 + k * 1000000 ∧ ∀ y, y ∈ xs ↔ y = -1 ∨ y = 2 ∨ (isP y ∧ ((0 < k ∧ a % y = 0) ∨ (1 < k ∧ b % y = 0)))) (fun k _ => 2 - k) 0 rfl
    ⟨by omega, hlt, _, _, _, _, hI0, by omega, fun y => by simp⟩ ?_
  rintro k W ⟨hk, hlt, p, n, c, xs, hI, hn, hmem⟩
  refine (T11_L0 ..).mpr ?_
  simp only [P11_L0, setA_ret, setA_again, retQ_ret, if_true]
  refine cnd_decide (fun hk2 => ?_) (fun hk2 => ?_)
  · have hk2 : k < 2 := by omega
    refine ix (n := 2) hI.six rfl (by omega) (by omega) ?_
    obtain ⟨m, hm, hm0, hm2⟩ : ∃ m, gi [a, b] k = m ∧ m ≠ 0 ∧ m.natAbs ≤ 1000000 := by
      rcases k with _ | _ | k
      · exact ⟨a, rfl, ha, ha2⟩
      · exact ⟨b, rfl, hb, hb2⟩
      · omega
    have hmk : ∀ y : Int, ((0 < k + 1 ∧ a % y = 0) ∨ (1 < k + 1 ∧ b % y = 0)) ↔ (((0 < k ∧ a % y = 0) ∨ (1 < k ∧ b % y = 0)) ∨ m % y = 0) := by
      intro y
      rcases k with _ | _ | k
      · have : m = a := hm.symm
        subst this; simp
      · have : m = b := hm.symm
        subst this; simp
      · omega
    rw [hm]
    clear hm
    refine (factors_ok W m).use ?_
    rintro v W1 ⟨bf, rfl, hbf, hboxf, hE1'⟩
    refine ⟨_, _, _, rfl, ?_⟩
    obtain ⟨fs, hfs⟩ := facs_exists _ 2 (m.natAbs : Int) (by omega) (by omega) (Nat.le_refl _)
    obtain ⟨hf1, hf2, hf3⟩ := facs_spec hfs (by omega) (by omega) (noDiv_two _)
    have hflen : (fs.length : Int) ≤ 1000000 := by
      have h := rising_len (l := fs.map Prod.fst) (lo := 1) (hi := 1000000) (List.pairwise_map.2 hf3) (fun x hx => by
        obtain ⟨z, hz, rfl⟩ := List.mem_map.1 hx
        have := hf1 z hz
        omega) (by omega)
      simp at h; omega
    have hdvd : ∀ y : Int, (m.natAbs : Int) % y = 0 ↔ m % y = 0 := fun y => ⟨fun h => Int.emod_eq_zero_of_dvd (Int.dvd_natAbs.1 (Int.dvd_of_emod_eq_zero h)), fun h => Int.emod_eq_zero_of_dvd (Int.dvd_natAbs.2 (Int.dvd_of_emod_eq_zero h))⟩
    have hWs : w.heap.size ≤ W1.heap.size := Nat.le_trans hI.ext.size hE1'.size
    refine J_rangeE (F := F11) hmx rfl L11_2 encF (fun _ => rfl) (lb := [.pointer (some (bl bf))]) rfl fs
      (fun pre W' => b6 < W'.heap.size ∧ ∃ p n' c xs', PlI w b3 b6 a b W' p n' c xs' ∧ n' ≤ n + pre.length ∧ ∀ y, y ∈ xs' ↔ y ∈ xs ∨ ∃ x ∈ pre, x.1 = y)
      (fun _ _ => False) (fun _ _ _ => False) ?_ (fun _ => Own.false) (fun _ _ => Own.false) ?_ (factors_iter W1 m bf hm0 hm2 hboxf fs hfs _) ?_ ?_ (fun _ _ h => h.elim) (fun _ _ _ h => h.elim)
    · rintro pre U U' ⟨h0, p', n', c', xs', h1, h2, h3⟩ ht
      exact ⟨Nat.lt_of_lt_of_le h0 ht.size, p', n', c', xs', h1.turn hWs ht, h2, h3⟩
    · exact ⟨Nat.lt_of_lt_of_le hlt hE1'.size, p, n, c, xs, hI.turn hWs (hE1'.turn _), by simp, by simp⟩
    · rintro pre x U hpre ⟨hl6, p', n', c', xs', hI', hn', hmem'⟩ _
      refine (T11_R2 ..).mpr ?_
      simp only [P11_R2, rndQ_fin]
      have hpl : pre.length ≤ fs.length := by
        have := hpre.length_le
        simp at this; omega
      have hln : xs'.length = n' := by have := hI'.own.len; simpa using this
      have hints : Ints U p' xs' := hI'.own.ints (by omega)
      refine ⟨_, _, _, hI'.box.cell, ?_⟩
      rw [← hln]
      refine (contains_ok U p' xs' c' x.1 hints).use ?_
      rintro v U1 ⟨rfl, rfl⟩
      refine ⟨_, rfl, cnd_not (cnd_decide (fun hc => ?_) (fun hc => ?_))⟩
      · refine ⟨hl6, p', n', c', xs', hI', by simp; omega, fun y => (hmem' y).trans ?_⟩
        constructor
        · rintro (h | ⟨z, hz, h⟩)
          · exact .inl h
          · exact .inr ⟨z, by simp [hz], h⟩
        · rintro (h | ⟨z, hz, h⟩)
          · exact .inl h
          · rcases List.mem_append.1 hz with hz | hz
            · exact .inr ⟨z, hz, h⟩
            · simp at hz; subst hz; subst h; exact (hmem' _).1 hc
      · refine ⟨_, _, _, hI'.box.cell, app1 slt25 hI'.own hI'.ext.size rfl (by omega) ?_⟩
        intro b22 w23 a24 c25 U2 hown2 hg2 hbl2 hf2'
        have hne : ∀ q : Nat, q < U.heap.size → obl p' ≠ some q → obl a24 ≠ some q := by
          intro q hq hne e
          rcases hbl2 with h | ⟨g, hg, hge⟩
          · exact hne (h ▸ e)
          · rw [e] at hg; cases hg; omega
        have hb3lt : b3 < U.heap.size := hI'.box.lt
        refine (hI'.box.keep hg2 hI'.ne3).set fun U3 hbox3 hg3 => ?_
        refine ⟨Nat.lt_of_lt_of_le hl6 (Nat.le_trans hg2.size hg3.size), a24, n' + 1, c25, xs' ++ [x.1], ⟨hbox3, ?_, hne b3 hb3lt hI'.ne3, hne b6 hl6 hI'.ne6, ?_, ?_, ?_⟩, by simp; omega, ?_⟩
        · have := OwnR.keep hown2 hg3 (.inr (hne b3 hb3lt hI'.ne3))
          simpa [ints] using this
        · refine ⟨(hI'.six.row.keep hg2 fun q hq => ?_).keep hg3 fun q hq => ?_, by simp⟩
          · cases hq; exact hI'.ne6
          · cases hq
            intro e
            have : b3 = b6 := Option.some.inj e
            omega
        · exact (hI'.ext.chg hg2 (fun q hq => (hI'.own.lt q hq).1)).chg hg3 (by intro q hq; cases hq; omega)
        · exact List.nodup_append.2 ⟨hI'.nd, by simp, fun y hy z hz => by simp at hz; subst hz; intro e; subst e; exact hc hy⟩
        · intro y
          simp only [List.mem_append, List.mem_singleton]
          rw [hmem' y]
          constructor
          · rintro ((h | ⟨z, hz, h⟩) | h)
            · exact .inl h
            · exact .inr ⟨z, .inl hz, h⟩
            · exact .inr ⟨x, .inr rfl, h.symm⟩
          · rintro (h | ⟨z, hz | hz, h⟩)
            · exact .inl (.inl h)
            · exact .inl (.inr ⟨z, hz, h⟩)
            · subst hz; exact .inr h.symm
    · rintro W2 ⟨hl6, p', n', c', xs', hI', hn', hmem'⟩
      refine (T11_D2 ..).mpr ?_
      simp only [P11_D2, setA_ret, setA_again, retQ_ret, if_true]
      refine wr (by omega) (by omega) ⟨k + 1, rfl, ⟨by omega, hl6, p', n', c', xs', hI', by omega, fun y => ?_⟩, by omega⟩
      rw [hmem' y, hmem y, hmk y]
      constructor
      · rintro ((h | h | ⟨h, h2⟩) | ⟨z, hz, h⟩)
        · exact .inl h
        · exact .inr (.inl h)
        · exact .inr (.inr ⟨h, .inl h2⟩)
        · subst h
          have := hf1 z hz
          exact .inr (.inr ⟨this.1, .inr ((hdvd _).1 this.2.1)⟩)
      · rintro (h | h | ⟨h, h2 | h2⟩)
        · exact .inl (.inl h)
        · exact .inl (.inr (.inl h))
        · exact .inl (.inr (.inr ⟨h, h2⟩))
        · exact .inr (hf2 y h ((hdvd _).2 h2))
  · have hk3 : k = 2 := by omega
    subst hk3
    refine ⟨_, _, _, hI.box.cell, (sort_ok W w.heap.size p n c xs hI.own (by omega)).use ?_⟩
    rintro v W2 ⟨rfl, hown2, hg2⟩
    refine ⟨rfl, _, _, _, (hI.box.keep hg2 hI.ne3).cell, ⟨p, n, c, sortI xs, rfl, hown2, ⟨sortI_strict hI.nd, fun x => ?_⟩, by omega⟩, hI.ext.chg hg2 (fun q hq => (hI.own.lt q hq).1)⟩
    rw [(sortI_perm xs).mem_iff, hmem x]
    simp
end Go.Proofs.Ythekpkamedjloaa
