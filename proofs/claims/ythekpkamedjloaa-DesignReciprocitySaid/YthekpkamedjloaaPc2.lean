import Derived.Test.YthekpkamedjloaaPc1
namespace Go.Proofs.Ythekpkamedjloaa
open Go.RowKit
def rise (v : Int) (xs : List Int) : Prop := xs.Pairwise (· < ·) ∧ ∀ x ∈ xs, 0 ≤ x ∧ x < v
def good (v : Int) (k : Nat) (bss : List (List Int)) : Prop := ∀ b ∈ bss, b.length = k ∧ rise v b
def bal (v : Int) (Ps : List (Int × Int)) (l : Nat) : Prop := ∀ x y : Int, 0 ≤ x → x < y → y < v → Ps.count (x, y) = l
abbrev Par := Int × Int × Int × Int × Int
open Classical in
/-- What Check returns behind its first tests. -/
noncomputable def chk2 (v : Int) (bss : List (List Int)) (k : Nat) : Par × Int :=
  if k < 2 ∨ v ≤ k then ((0, 0, 0, 0, 0), 60) else if ¬ good v k bss then ((0, 0, 0, 0, 0), 60) else
  if (bss.flatMap prs).count (0, 1) ≠ 0 ∧ bal v (bss.flatMap prs) ((bss.flatMap prs).count (0, 1)) then
    ((v, (bss.length : Int), (((bss.flatMap prs).count (0, 1) : Nat) : Int) * (v - 1) / ((k : Int) - 1), (k : Int), (((bss.flatMap prs).count (0, 1) : Nat) : Int)), 0) else ((0, 0, 0, 0, 0), 60)
/-- What Check returns. -/
noncomputable def chk (v : Int) (bss : List (List Int)) : Par × Int :=
  if v < 3 ∨ 200 < v then ((0, 0, 0, 0, 0), 1) else if 2000 < bss.length then ((0, 0, 0, 0, 0), 2) else if bss.length = 0 then ((0, 0, 0, 0, 0), 60) else chk2 v bss (bss.headD []).length
theorem chk2_k {v : Int} {bss : List (List Int)} {k : Nat} (h : k < 2 ∨ v ≤ k) : chk2 v bss k = ((0, 0, 0, 0, 0), 60) := by unfold chk2; rw [if_pos h]
theorem chk2_good {v : Int} {bss : List (List Int)} {k : Nat} (h : ¬ good v k bss) : chk2 v bss k = ((0, 0, 0, 0, 0), 60) := by
  unfold chk2
  by_cases h1 : k < 2 ∨ v ≤ k
  · rw [if_pos h1]
  · rw [if_neg h1, if_pos h]
theorem chk2_bad {v : Int} {bss : List (List Int)} {k : Nat} (h : ¬ ((bss.flatMap prs).count (0, 1) ≠ 0 ∧ bal v (bss.flatMap prs) ((bss.flatMap prs).count (0, 1)))) : chk2 v bss k = ((0, 0, 0, 0, 0), 60) := by
  unfold chk2
  by_cases h1 : k < 2 ∨ v ≤ k
  · rw [if_pos h1]
  · rw [if_neg h1]
    by_cases h2 : ¬ good v k bss
    · rw [if_pos h2]
    · rw [if_neg h2, if_neg h]
theorem chk2_ok {v : Int} {bss : List (List Int)} {k : Nat} (h1 : ¬ (k < 2 ∨ v ≤ k)) (h2 : good v k bss) (h : (bss.flatMap prs).count (0, 1) ≠ 0 ∧ bal v (bss.flatMap prs) ((bss.flatMap prs).count (0, 1))) :
    chk2 v bss k = ((v, (bss.length : Int), (((bss.flatMap prs).count (0, 1) : Nat) : Int) * (v - 1) / ((k : Int) - 1), (k : Int), (((bss.flatMap prs).count (0, 1) : Nat) : Int)), 0) := by
  unfold chk2; rw [if_neg h1, if_neg (fun h => h h2), if_pos h]
def parV (r : Par × Int) : Value := .tuple #[.agg #[.int .i64 r.1.1, .int .i64 r.1.2.1, .int .i64 r.1.2.2.1, .int .i64 r.1.2.2.2.1, .int .i64 r.1.2.2.2.2], .int .i64 r.2]
theorem prsTo_succ (b : List Int) (i : Nat) (hi : i < b.length) : prsTo b (i + 1) = prsTo b i ++ (b.take i).map fun y => (y, b[i]) := by
  simp [prsTo, List.range_succ, List.getD_eq_getElem?_getD, List.getElem?_eq_getElem hi]
theorem prsTo_all (b : List Int) : prsTo b b.length = prs b := rfl
theorem prs_len (b : List Int) : ∀ n, n ≤ b.length → (prsTo b n).length ≤ n * b.length := by
  intro n hn
  induction n with
  | zero => simp [prsTo]
  | succ n ih =>
    rw [prsTo_succ b n (by omega), List.length_append, List.length_map, List.length_take, Nat.succ_mul]
    have := ih (by omega)
    omega
/-- The state in the loops. -/
structure CI (w : World) (b1 bt : Nat) (W : World) (Ps : List (Int × Int)) : Prop where
  par : ∃ vs, OwnR W w.heap.size 34 (some (bl b1)) 5 5 vs
  tog : Tog W w.heap.size bt Ps
  ext : Ext w W
theorem CI.drew {w : World} {b1 bt : Nat} {W : World} {Ps : List (Int × Int)} (h : CI w b1 bt W Ps) : CI w b1 bt W.drew Ps :=
  ⟨let ⟨vs, hv⟩ := h.par; ⟨vs, hv.ext (Ext.drew W)⟩, h.tog.ext (Ext.drew W), h.ext.trans (Ext.drew W)⟩
theorem CI.extW {w : World} {b1 bt : Nat} {W W' : World} {Ps : List (Int × Int)} (h : CI w b1 bt W Ps) (hE : Ext W W') : CI w b1 bt W' Ps :=
  ⟨let ⟨vs, hv⟩ := h.par; ⟨vs, hv.ext hE⟩, h.tog.ext hE, h.ext.trans hE⟩
theorem flat_len (v : Int) (k : Nat) : ∀ bss : List (List Int), good v k bss → (bss.flatMap prs).length ≤ bss.length * (k * k)
  | [], _ => by simp
  | b :: bss, h => by
    have h1 := h b (List.mem_cons_self ..)
    have h2 := flat_len v k bss (fun c hc => h c (List.mem_cons_of_mem _ hc))
    have h3 := prs_len b b.length (Nat.le_refl _)
    rw [prsTo_all, h1.1] at h3
    rw [List.flatMap_cons, List.length_append, List.length_cons, Nat.succ_mul]
    omega
theorem Check_ok (w : World) (v : Int) (a : Option Addr) (hs : List (Option Addr × Nat)) (bss : List (List Int)) (c : Nat) (h : Ints2 w a hs bss) :
    Fn PR 8 [.int .i64 v, .slice a bss.length c] w fun r w' => r = parV (chk v bss) ∧ Ext w w' := by
  refine U8 ?_
  unfold P8_0
  refine newRow (B := w.heap.size) 5 rfl (Nat.le_refl _) (by omega) fun b1 w2 hb1 hE2 hs2 h2 => ?_
  have leave : ∀ (W : World) (vs : List Value) (e : Int), Ext w W → OwnR W w.heap.size 34 (some (bl b1)) 5 5 vs → chk v bss = ((0, 0, 0, 0, 0), e) → ∀ w', Chg W w' (some b1) →
      (Value.tuple #[.agg #[.int .i64 0, .int .i64 0, .int .i64 0, .int .i64 0, .int .i64 0], .int .i64 e] = parV (chk v bss) ∧ Ext w w') := fun W vs e hE _ hc w' hg => ⟨by rw [hc]; rfl, hE.chg hg (by intro k hk; cases hk; omega)⟩
  refine cnd_decide (fun h3 => ?_) (fun h3 => ?_)
  · exact ret5 (by trivial) h2 (leave _ _ 1 hE2 h2 (by unfold chk; rw [if_pos (.inl h3)]))
  refine cnd_decide (fun h4 => ?_) (fun h4 => ?_)
  · exact ret5 (by trivial) h2 (leave _ _ 1 hE2 h2 (by unfold chk; rw [if_pos (.inr h4)]))
  have c1 : ¬ (v < 3 ∨ 200 < v) := by omega
  refine cnd_decide (fun h5 => ?_) (fun h5 => ?_)
  · exact ret5 (by trivial) h2 (leave _ _ 2 hE2 h2 (by unfold chk; rw [if_neg c1, if_pos (by omega)]))
  have c2 : ¬ (2000 < bss.length) := by omega
  refine cnd_decide (fun h6 => ?_) (fun h6 => ?_)
  · have : bss.length = 0 := by omega
    exact ret5 (by trivial) h2 (leave _ _ 60 hE2 h2 (by unfold chk; rw [if_neg c1, if_neg c2, if_pos this]))
  have hpos : 0 < bss.length := by omega
  have c3 : ¬ (bss.length = 0) := by omega
  have hh : bss.headD [] = bss[0] := by
    match bss, hpos with
    | b :: l, _ => rfl
  have c4 : chk v bss = chk2 v bss (bss[0]).length := by
    unfold chk
    rw [if_neg c1, if_neg c2, if_neg c3, hh]
  refine ix2 (i := 0) (h.ext hE2) rfl rfl hpos fun _ _ => ?_
  refine cnd_decide (fun h7 => ?_) (fun h7 => ?_)
  · exact ret5 (by trivial) h2 (leave _ _ 60 hE2 h2 (c4.trans (chk2_k (.inl (by omega)))))
  refine ix2 (i := 0) (h.ext hE2) rfl rfl hpos fun _ _ => ?_
  refine cnd_decide (fun h8 => ?_) (fun h8 => ?_)
  · exact ret5 (by trivial) h2 (leave _ _ 60 hE2 h2 (c4.trans (chk2_k (.inr (by omega)))))
  refine ix2 (i := 0) (h.ext hE2) rfl rfl hpos fun _ _ => ?_
  have c5 : ¬ ((bss[0]).length < 2 ∨ v ≤ (bss[0]).length) := by omega
  generalize hkk : (bss[0]).length = k at *
  have hz : (zc PR 51) = (List.replicate 40000 (Value.int .i64 0)).toArray := by apply Array.toList_inj.1; rw [zc76]
  rw [hz]
  refine newRow (B := w.heap.size) 40000 List.length_replicate.symm (by omega) (by omega) fun bt w3 hbt hE3 hs3 h3' => ?_
  have hI0 : CI w b1 bt w3 [] := ⟨⟨_, h2.ext hE3⟩, ⟨_, h3', fun x y hx hy => by
    rw [List.getElem?_replicate, if_pos (by omega)]
    simp⟩, hE2.trans hE3⟩
  have hbne : bt ≠ b1 := by omega
  clear hz h3' leave
  have leave : ∀ (W : World) (Ps : List (Int × Int)) {p : Prop} {K : Int → Int → Int → Int → Int → World → Prop}, p → CI w b1 bt W Ps → (∀ w', Ext w w' → K 0 0 0 0 0 w') →
    sto W ((bl b1).add 0) (.int .i64 0) fun w1 => sto w1 ((bl b1).add 1) (.int .i64 0) fun w2 => sto w2 ((bl b1).add 2) (.int .i64 0) fun w3 => sto w3 ((bl b1).add 3) (.int .i64 0) fun w4 => sto w4 ((bl b1).add 4) (.int .i64 0) fun w5 =>
      ∃ x0, ∃ x1, ∃ x2, ∃ x3, ∃ x4, (p ∧ w5.cell? ((bl b1).add 0) = some (.int .i64 x0) ∧ w5.cell? ((bl b1).add 1) = some (.int .i64 x1) ∧ w5.cell? ((bl b1).add 2) = some (.int .i64 x2) ∧ w5.cell? ((bl b1).add 3) = some (.int .i64 x3) ∧ w5.cell? ((bl b1).add 4) = some (.int .i64 x4) ∧ True) ∧ K x0 x1 x2 x3 x4 w5 := by
    intro W Ps p K hp hI hK
    obtain ⟨vs, hv⟩ := hI.par
    exact ret5 hp hv fun w' hg => hK w' (hI.ext.chg hg (by intro k hk; cases hk; omega))
  have e60 : chk v bss = ((0, 0, 0, 0, 0), 60) → (Value.tuple #[.agg #[.int .i64 0, .int .i64 0, .int .i64 0, .int .i64 0, .int .i64 0], .int .i64 60] = parV (chk v bss)) := fun hc => by rw [hc]; rfl
  have hlenb : bss.length ≤ 2000 := by omega
  have hk200 : k ≤ 200 := by omega
  refine J_loop (F := F8) hmx L8_0 (fun i : Nat => [.int .i64 v, .slice a bss.length c, .pointer (some (bl b1)), .int .i64 (k : Nat), .pointer (some (bl bt)), .slice a bss.length c, .int .i64 (bss.length : Nat), .int .i64 i])
    (fun i W => i ≤ bss.length ∧ good v k (bss.take i) ∧ CI w b1 bt W ((bss.take i).flatMap prs)) (fun i _ => bss.length - i) 0 rfl ⟨by omega, fun b hb => (by simp at hb), by simpa using hI0⟩ ?_
  rintro i W ⟨hi, hg, hI⟩
  refine (T8_L0 ..).mpr ?_
  simp only [P8_L0, setA_ret, setA_again, retQ_ret, if_true]
  refine cnd_decide (fun hlt => ?_) (fun hge => ?_)
  · have hi2 : i < bss.length := by omega
    refine ix2 (i := i) (h.ext hI.ext) rfl rfl hi2 fun hh2 hxbc => ?_
    have hxb := h.at hi2 hh2
    generalize hs[i].1 = ab at *
    generalize hs[i].2 = kb at *
    have hmem : bss[i] ∈ bss := List.getElem_mem hi2
    refine cnd_not (cnd_decide (fun hl => ?_) (fun hl => ?_))
    · refine (rising_ok W ab bss[i] kb v (hxb W hI.ext)).use ?_
      rintro _ W1 ⟨rfl, rfl⟩
      refine ⟨_, rfl, cnd_not (cnd_decide (fun hr => ?_) (fun hr => ?_))⟩
      · -- the pairs of this block
        have hbl : bss[i].length = k := by omega
        have hr' : rise v bss[i] := hr
        have hgl := flat_len v k _ hg
        rw [List.length_take] at hgl
        have hgl2 : ((bss.take i).flatMap prs).length ≤ 2000 * (200 * 200) := Nat.le_trans hgl (Nat.mul_le_mul (by omega) (Nat.mul_le_mul hk200 hk200))
        have hnext : ((bss.take (i + 1)).flatMap prs) = (bss.take i).flatMap prs ++ prs bss[i] := by
          rw [List.take_succ_eq_append_getElem hi2, List.flatMap_append]; simp
        have hgnext : good v k (bss.take (i + 1)) := by
          rw [List.take_succ_eq_append_getElem hi2]
          intro b hb
          rcases List.mem_append.1 hb with hb | hb
          · exact hg b hb
          · simp at hb; subst hb; exact ⟨hbl, hr'⟩
        generalize hb : bss[i] = b at *
        refine J_loop (F := F8) hmx L8_2 (fun j : Nat => [.int .i64 v, .slice a bss.length c, .pointer (some (bl b1)), .int .i64 (k : Nat), .pointer (some (bl bt)), .slice ab b.length kb, .slice a bss.length c, .int .i64 (bss.length : Nat), .int .i64 i, .slice ab b.length kb, .int .i64 (b.length : Nat), .int .i64 j])
          (fun j W' => j ≤ b.length ∧ CI w b1 bt W' ((bss.take i).flatMap prs ++ prsTo b j)) (fun j _ => b.length - j) 0 rfl ⟨by omega, by simpa [prsTo] using hI⟩ ?_
        rintro j W1 ⟨hj, hI1⟩
        refine (T8_2 ..).mpr ?_
        simp only [P8_2, setA_ret, setA_again, retQ_ret, if_true]
        refine cnd_decide (fun hjlt => ?_) (fun hjge => ?_)
        · have hj2 : j < b.length := by omega
          refine ix (hxb W1 hI1.ext) rfl (by omega) (by omega) ?_
          rw [gi_get hj2]
          refine ⟨⟨by omega, by omega, by omega, by omega, by simp⟩, ?_⟩
          have hpl := prs_len b j (by omega)
          have hpl2 : (prsTo b j).length ≤ 200 * 200 := Nat.le_trans hpl (Nat.mul_le_mul (by omega) (by omega))
          have hxj := hr'.2 _ (List.getElem_mem hj2)
          have hsub : ∀ W', Ext w W' → Ints W' (if (((kb : Nat) : Int) : Int).toNat = (0 : Int).toNat then ab else Option.map (fun x => x.add ((0 : Int).toNat * 1)) ab) (b.take j) := by
            intro W' hE
            rw [if_neg (by simp; omega)]
            refine ⟨fun m hm => ?_, by have := (hxb W' hE).len; simp; omega⟩
            simp at hm
            obtain ⟨p, hp, hc⟩ := (hxb W' hE).row m (by simp; omega)
            have hp0 : p.add 0 = p := by simp [Addr.add]
            refine ⟨p, by rw [hp]; simp [hp0], ?_⟩
            rw [hc]
            simp [ints]
          generalize (if (((kb : Nat) : Int) : Int).toNat = (0 : Int).toNat then ab else Option.map (fun x => x.add ((0 : Int).toNat * 1)) ab) = sa at *
          generalize (((kb : Nat) : Int) : Int).toNat - (0 : Int).toNat = cs at *
          have hjj : (j : Int).toNat - (0 : Int).toNat = (b.take j).length := by simp; omega
          rw [hjj]
          refine J_loop (F := F8) hmx L8_4 (fun m : Nat => [.int .i64 v, .slice a bss.length c, .pointer (some (bl b1)), .int .i64 (k : Nat), .pointer (some (bl bt)), .slice ab b.length kb, .int .i64 b[j], .slice a bss.length c, .int .i64 (bss.length : Nat), .int .i64 i, .slice ab b.length kb, .int .i64 (b.length : Nat), .int .i64 j, .slice sa (b.take j).length cs, .int .i64 ((b.take j).length : Nat), .int .i64 m])
            (fun m W' => m ≤ j ∧ CI w b1 bt W' ((bss.take i).flatMap prs ++ prsTo b j ++ (b.take m).map fun y => (y, b[j]))) (fun m _ => j - m) 0 rfl ⟨by omega, by simpa using hI1⟩ ?_
          rintro m W2 ⟨hm, hI2⟩
          refine (T8_4 ..).mpr ?_
          simp only [P8_4, setA_ret, setA_again, retQ_ret, if_true]
          have hlt' : (b.take j).length = j := by simp; omega
          refine cnd_decide (fun hmlt => ?_) (fun hmge => ?_)
          · have hm2 : m < j := by omega
            refine ix (hsub W2 hI2.ext) rfl (by omega) (by omega) ?_
            rw [gi_get (show m < (b.take j).length by omega), List.getElem_take]
            have hxm := hr'.2 _ (List.getElem_mem (show m < b.length by omega))
            rintro w102 rfl
            have hI3 := hI2.drew
            have hcnt : ((bss.take i).flatMap prs ++ prsTo b j ++ (b.take m).map fun y => (y, b[j])).length ≤ 100000000 := by
              rw [List.length_append, List.length_append, List.length_map, List.length_take]
              omega
            have hcl := List.count_le_length (a := (b[m], b[j])) (l := ((bss.take i).flatMap prs ++ prsTo b j ++ (b.take m).map fun y => (y, b[j])))
            refine ⟨by omega, by omega, by omega, by omega, _, hI3.tog.read hxm.1 (by omega) hxj.1 (by omega), wr (by omega) (by omega) ⟨by omega, by omega, by omega, by omega, hI3.tog.sto hxm.1 (by omega) hxj.1 (by omega) fun W3 ht hg3 => ?_⟩⟩
            refine wr (by omega) (by omega) ⟨m + 1, rfl, ⟨by omega, ⟨?_, ?_, hI3.ext.chg hg3 (by intro k hk; cases hk; omega)⟩⟩, by omega⟩
            · obtain ⟨vs, hv⟩ := hI3.par
              exact ⟨vs, hv.keep hg3 (.inr (by simp [obl]; omega))⟩
            · rw [List.take_succ_eq_append_getElem (show m < b.length by omega), List.map_append, ← List.append_assoc]
              exact ht
          · have : m = j := by omega
            subst this
            refine wr (by omega) (by omega) ⟨m + 1, rfl, ⟨by omega, ?_⟩, by omega⟩
            rw [prsTo_succ b m hj2, ← List.append_assoc]
            exact hI2
        · have : j = b.length := by omega
          subst this
          rw [prsTo_all, ← hnext] at hI1
          exact wr (by omega) (by omega) ⟨i + 1, rfl, ⟨by omega, hgnext, hI1⟩, by omega⟩
      · refine leave W _ (by trivial) hI fun w' hE => ⟨e60 (c4.trans (chk2_good fun hgd => hr (hgd _ hmem).2)), hE⟩
    · refine leave W _ (by trivial) hI fun w' hE => ⟨e60 (c4.trans (chk2_good fun hgd => hl (by rw [(hgd _ hmem).1]))), hE⟩
  · have : i = bss.length := by omega
    subst this
    rw [List.take_length] at hg hI
    have hfl := flat_len v k _ hg
    have hfl2 : (bss.flatMap prs).length ≤ 2000 * (200 * 200) := Nat.le_trans hfl (Nat.mul_le_mul hlenb (Nat.mul_le_mul hk200 hk200))
    have hcl := List.count_le_length (a := ((0 : Int), (1 : Int))) (l := bss.flatMap prs)
    refine ⟨by omega, by omega, by omega, by omega, _, hI.tog.read (by omega) (by omega) (by omega) (by omega), ?_⟩
    have hc2 := fun h => c4.trans (chk2_bad (v := v) (bss := bss) (k := k) h)
    have hc3 := fun h => c4.trans (chk2_ok (v := v) (bss := bss) (k := k) c5 hg h)
    generalize hPs : bss.flatMap prs = Ps at *
    generalize hl : Ps.count ((0 : Int), (1 : Int)) = l at *
    refine J_loop (F := F8) hmx L8_6 (fun y : Int => [.int .i64 v, .slice a bss.length c, .pointer (some (bl b1)), .int .i64 (k : Nat), .pointer (some (bl bt)), .int .i64 (l : Nat), .int .i64 v, .int .i64 y])
      (fun y W' => (0 ≤ y ∧ y ≤ v) ∧ (∀ x y' : Int, 0 ≤ x → x < y' → y' < y → Ps.count (x, y') = l) ∧ CI w b1 bt W' Ps) (fun y _ => (v - y).toNat) 0 rfl ⟨by omega, fun x y' h1 h2 h3 => by omega, hI⟩ ?_
    rintro y W1 ⟨⟨hy, hy2⟩, hall, hI1⟩
    refine (T8_6 ..).mpr ?_
    simp only [P8_6, setA_ret, setA_again, retQ_ret, if_true]
    refine cnd_decide (fun hylt => ?_) (fun hyge => ?_)
    · refine J_loop (F := F8) hmx L8_8 (fun x : Int => [.int .i64 v, .slice a bss.length c, .pointer (some (bl b1)), .int .i64 (k : Nat), .pointer (some (bl bt)), .int .i64 (l : Nat), .int .i64 y, .int .i64 v, .int .i64 y, .int .i64 y, .int .i64 x])
        (fun x W' => (0 ≤ x ∧ x ≤ y) ∧ (∀ x' : Int, 0 ≤ x' → x' < x → Ps.count (x', y) = l) ∧ CI w b1 bt W' Ps) (fun x _ => (y - x).toNat) 0 rfl ⟨by omega, fun x' h1 h2 => by omega, hI1⟩ ?_
      rintro x W2 ⟨⟨hx, hx2⟩, hallx, hI2⟩
      refine (T8_8 ..).mpr ?_
      simp only [P8_8, setA_ret, setA_again, retQ_ret, if_true]
      refine cnd_decide (fun hxlt => ?_) (fun hxge => ?_)
      · refine ⟨by omega, by omega, by omega, by omega, _, hI2.tog.read hx (by omega) hy (by omega), cnd_not (cnd_decide (fun he => ?_) (fun he => ?_))⟩
        · refine wr (by omega) (by omega) ⟨x + 1, rfl, ⟨by omega, fun x' h1 h2 => ?_, hI2⟩, by omega⟩
          by_cases e : x' = x
          · subst e; omega
          · exact hallx x' h1 (by omega)
        · refine leave W2 _ (by trivial) hI2 fun w' hE => ⟨e60 (hc2 fun hb => he ?_), hE⟩
          have := hb.2 x y hx hxlt hylt
          omega
      · have : x = y := by omega
        subst this
        refine wr (by omega) (by omega) ⟨x + 1, rfl, ⟨by omega, fun x' y' h1 h2 h3 => ?_, hI2⟩, by omega⟩
        by_cases e : y' = x
        · subst e; exact hallx x' h1 h2
        · exact hall x' y' h1 h2 (by omega)
    · have : y = v := by omega
      subst this
      refine cnd_decide (fun h0 => ?_) (fun h0 => ?_)
      · exact leave W1 _ (by trivial) hI1 fun w' hE => ⟨e60 (hc2 fun hb => hb.1 (by omega)), hE⟩
      · have hlv : 0 ≤ (l : Int) * (y - 1) ∧ (l : Int) * (y - 1) ≤ 80000000 * 199 := ⟨Int.mul_nonneg (by omega) (by omega), Int.le_trans (Int.mul_le_mul_of_nonneg_right (show (l : Int) ≤ 80000000 by omega) (by omega)) (Int.mul_le_mul_of_nonneg_left (by omega) (by omega))⟩
        refine wr (by omega) (by omega) (wr (by omega) (by omega) (wr (by omega) (by omega) (qu (by omega) hlv.1 (by omega) ?_)))
        obtain ⟨vs, hv⟩ := hI1.par
        refine ret5 (by trivial) hv fun w' hg' => ⟨?_, hI1.ext.chg hg' (by intro k hk; cases hk; omega)⟩
        rw [hc3 ⟨by omega, hall⟩]
        rfl
end Go.Proofs.Ythekpkamedjloaa
