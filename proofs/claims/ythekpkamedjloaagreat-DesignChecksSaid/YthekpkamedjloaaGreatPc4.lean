/- The reference's check of a design. -/
import Derived.Test.YthekpkamedjloaaGreatPc3
import Derived.Test.YthekpkamedjloaaGreatPe3
namespace Go.Proofs.YthekpkamedjloaaGreat
open Go.RowKit
open Classical in
theorem rrising_ok (w : World) (a : Option Addr) (xs : List Int) (c : Nat) (v : Int) (h : Ints w a xs) : Fn PR 44 [.int .i64 v, .slice a xs.length c] w fun r w' => r = .bool (decide (rise v xs)) ∧ Ext w w' := by
  refine U44 ?_
  unfold P44_0
  refine J_loop (F := F44) hmx L44_0 (fun k : Nat => [.int .i64 v, .slice a xs.length c, .int .i64 k])
    (fun k W => k ≤ xs.length ∧ rise v (xs.take k) ∧ Ext w W) (fun k _ => xs.length - k) 0 rfl ⟨by omega, by simp [rise], Ext.refl _⟩ ?_
  rintro k W ⟨hk, hr, hE⟩
  refine (T44_L0 ..).mpr ?_
  simp only [P44_L0, setA_ret, setA_again, retQ_ret, if_true]
  refine cnd_decide (fun hlt => ?_) (fun hge => ?_)
  · have hk2 : k < xs.length := by omega
    rintro w1 rfl
    have hE1 := hE.trans (Ext.drew W)
    have hi := h.ext hE1
    have no : ¬ rise v xs → (Value.bool false = .bool (decide (rise v xs)) ∧ Ext w W.drew) := fun hn => ⟨by congr 1; rw [eq_comm, decide_eq_false_iff_not]; exact hn, hE1⟩
    have hmem := List.getElem_mem hk2
    refine ix hi rfl (by omega) (by omega) ?_
    rw [gi_get hk2]
    refine cnd_decide (fun e => no fun hh => by have := hh.2 _ hmem; omega) (fun e1 => ?_)
    refine ix hi rfl (by omega) (by omega) ?_
    rw [gi_get hk2]
    refine cnd_decide (fun e => no fun hh => by have := hh.2 _ hmem; omega) (fun e2 => ?_)
    have next : (∀ j (hj : j + 1 = k), xs[j] < xs[k]) → rise v (xs.take (k + 1)) := by
      intro hlast
      rw [List.take_succ_eq_append_getElem hk2]
      refine ⟨List.pairwise_append.2 ⟨hr.1, List.pairwise_singleton _ _, fun x hx y hy => ?_⟩, fun x hx => ?_⟩
      · simp at hy; subst hy
        obtain ⟨i, hi, rfl⟩ := List.mem_take_iff_getElem.1 hx
        have hl := hlast (k - 1) (by omega)
        by_cases e : i = k - 1
        · subst e; exact hl
        · have := List.pairwise_iff_getElem.1 hr.1 i (k - 1) (by simp; omega) (by simp; omega) (by omega)
          simp only [List.getElem_take] at this
          omega
      · rcases List.mem_append.1 hx with hx | hx
        · exact hr.2 x hx
        · simp at hx; subst hx; omega
    refine cnd_decide (fun hpos => ?_) (fun hz => ?_)
    · refine wr (by omega) (by have := hi.len; omega) ?_
      have hkk : ((k : Int) - 1) = ((k - 1 : Nat) : Int) := by omega
      rw [hkk]
      refine ix hi rfl (by omega) (by omega) (ix hi rfl (by omega) (by omega) ?_)
      rw [gi_get hk2, gi_get (show k - 1 < xs.length by omega)]
      refine cnd_decide (fun e => no fun hh => ?_) (fun e3 => ?_)
      · have := List.pairwise_iff_getElem.1 hh.1 (k - 1) k (by omega) hk2 (by omega)
        omega
      · exact wr (by omega) (by have := h.len; omega) ⟨k + 1, rfl, ⟨by omega, next fun j hj => by
          have : j = k - 1 := by omega
          subst this; omega, hE1⟩, by omega⟩
    · exact wr (by omega) (by have := h.len; omega) ⟨k + 1, rfl, ⟨by omega, next fun j hj => by omega, hE1⟩, by omega⟩
  · have : k = xs.length := by omega
    subst this
    rw [List.take_length] at hr
    exact ⟨by congr 1; rw [eq_comm, decide_eq_true_eq]; exact hr, hE⟩
/-- The reference's table that counts pairs. -/
structure Tg (W : World) (B bt v : Nat) (Ps : List (Int × Int)) : Prop where
  ex : ∃ hs xss, Own2 W B 25 3 (some (bl bt)) v v hs xss ∧ ∀ x : Nat, x < v → ∃ row, xss[x]? = some row ∧ row.length = v ∧ ∀ y : Nat, y < v → row[y]? = some ((Ps.count ((x : Int), (y : Int)) : Nat) : Int)
theorem Tg.ext {W W' : World} {B bt v : Nat} {Ps : List (Int × Int)} (h : Tg W B bt v Ps) (hE : Ext W W') : Tg W' B bt v Ps :=
  let ⟨hs, xss, h1, h2⟩ := h.ex; ⟨hs, xss, h1.ext hE, h2⟩
theorem Tg.read {W : World} {B bt v : Nat} {Ps : List (Int × Int)} {x y : Int} {K : Int → Prop} (h : Tg W B bt v Ps) (hx : 0 ≤ x) (hx2 : x < v) (hy : 0 ≤ y) (hy2 : y < v) (hk : K ((Ps.count (x, y) : Nat) : Int)) :
    0 ≤ x ∧ x < (v : Nat) ∧ ∃ p, some (bl bt) = some p ∧ ∃ xa, ∃ xn, ∃ xc, W.cell? (p.add (x.toNat * 1)) = some (.slice xa xn xc) ∧ 0 ≤ y ∧ y < (xn : Nat) ∧ ∃ p, xa = some p ∧ ∃ z, W.cell? (p.add (y.toNat * 1)) = some (.int .i64 z) ∧ K z := by
  obtain ⟨hs, xss, h1, h2⟩ := h.ex
  have hn := h1.ilen
  obtain ⟨row, hr, hl, hc⟩ := h2 x.toNat (by omega)
  obtain ⟨hxl, hrow⟩ := List.getElem?_eq_some_iff.1 hr
  refine h1.ix (x := x.toNat) (by omega) hxl fun hh => ?_
  have he := h1.each x.toNat hh hxl
  rw [hrow] at he ⊢
  have hc1 := hc y.toNat (by omega)
  obtain ⟨hyl, hyv⟩ := List.getElem?_eq_some_iff.1 hc1
  obtain ⟨p, hp, hcell⟩ := he.row y.toNat (by simpa using hyl)
  refine ⟨hy, by omega, p, hp, ((Ps.count (x, y) : Nat) : Int), ?_, hk⟩
  rw [Nat.mul_one, hcell]
  simp only [ints, List.getElem_map, hyv]
  rw [Int.toNat_of_nonneg hx, Int.toNat_of_nonneg hy]
theorem Tg.inc {W : World} {B bt v : Nat} {Ps : List (Int × Int)} {x y : Int} {K : World → Prop} (h : Tg W B bt v Ps) (hx : 0 ≤ x) (hx2 : x < v) (hy : 0 ≤ y) (hy2 : y < v) (hl : Ps.length ≤ 1000000000)
    (hk : ∀ W' b, Tg W' B bt v (Ps ++ [(x, y)]) → Chg W W' b → (∀ k, b = some k → B ≤ k) → K W') :
    0 ≤ x ∧ x < (v : Nat) ∧ ∃ p, some (bl bt) = some p ∧ ∃ xa, ∃ xn, ∃ xc, W.cell? (p.add (x.toNat * 1)) = some (.slice xa xn xc) ∧ 0 ≤ y ∧ y < (xn : Nat) ∧ ∃ p, xa = some p ∧ ∃ z, W.cell? (p.add (y.toNat * 1)) = some (.int .i64 z) ∧
      ∃ r, IntKind.i64.wrap (z + 1) = r ∧ 0 ≤ y ∧ y < (xn : Nat) ∧ ∃ p, xa = some p ∧ sto W (p.add (y.toNat * 1)) (.int .i64 r) K := by
  obtain ⟨hs, xss, h1, h2⟩ := h.ex
  have hn := h1.ilen
  obtain ⟨row, hr, hrl, hc⟩ := h2 x.toNat (by omega)
  obtain ⟨hxl, hrow⟩ := List.getElem?_eq_some_iff.1 hr
  refine h1.ix (x := x.toNat) (by omega) hxl fun hh => ?_
  have he := h1.each x.toNat hh hxl
  have hc1 := hc y.toNat (by omega)
  obtain ⟨hyl, hyv⟩ := List.getElem?_eq_some_iff.1 hc1
  have hupd := fun ys W' => h1.upd (W' := W') hh hxl (ys := ys)
  rw [hrow] at he hupd ⊢
  obtain ⟨p, hp, hcell⟩ := he.row y.toNat (by simpa using hyl)
  have hcl := List.count_le_length (a := (x, y)) (l := Ps)
  refine ⟨hy, by omega, p, hp, ((Ps.count (x, y) : Nat) : Int), ?_, wr (by omega) (by omega) ⟨hy, by omega, p, hp, ?_⟩⟩
  · rw [Nat.mul_one, hcell]
    simp only [ints, List.getElem_map, hyv]
    rw [Int.toNat_of_nonneg hx, Int.toNat_of_nonneg hy]
  · rw [Nat.mul_one]
    refine OwnR.sto he hp (by omega) fun W' hown hg => hk W' _ ⟨hs, _, hupd (row.set y.toNat ((Ps.count (x, y) : Nat) + 1)) W' hg (by rw [ints_set]; exact hown), fun x' hx' => ?_⟩ hg (fun k hk => (he.lt k hk).1)
    by_cases e : x.toNat = x'
    · subst e
      refine ⟨_, List.getElem?_set_self hxl, by simp [hrl], fun y' hy' => ?_⟩
      rw [List.count_append, List.count_singleton]
      by_cases e2 : y.toNat = y'
      · subst e2
        rw [List.getElem?_set_self hyl, Int.toNat_of_nonneg hx, Int.toNat_of_nonneg hy]
        simp
      · rw [List.getElem?_set_ne e2, hc y' hy', if_neg (by simp; omega)]
        simp
    · obtain ⟨row', hr', hl', hc'⟩ := h2 x' hx'
      refine ⟨row', by rw [List.getElem?_set_ne e]; exact hr', hl', fun y' hy' => ?_⟩
      rw [hc' y' hy', List.count_append, List.count_singleton, if_neg (by simp; omega)]
      simp
structure RI (w : World) (b1 B bt v : Nat) (W : World) (Ps : List (Int × Int)) : Prop where
  par : ∃ vs, OwnR W w.heap.size 51 (some (bl b1)) 5 5 vs
  tog : Tg W B bt v Ps
  ext : Ext w W
theorem RI.drew {w : World} {b1 B bt v : Nat} {W : World} {Ps : List (Int × Int)} (h : RI w b1 B bt v W Ps) : RI w b1 B bt v W.drew Ps :=
  ⟨let ⟨vs, hv⟩ := h.par; ⟨vs, hv.ext (Ext.drew W)⟩, h.tog.ext (Ext.drew W), h.ext.trans (Ext.drew W)⟩
theorem RI.extW {w : World} {b1 B bt v : Nat} {W W' : World} {Ps : List (Int × Int)} (h : RI w b1 B bt v W Ps) (hE : Ext W W') : RI w b1 B bt v W' Ps :=
  ⟨let ⟨vs, hv⟩ := h.par; ⟨vs, hv.ext hE⟩, h.tog.ext hE, h.ext.trans hE⟩
theorem RI.inc {w : World} {b1 B bt v : Nat} {W W' : World} {Ps Ps' : List (Int × Int)} {b : Option Nat} (h : RI w b1 B bt v W Ps) (hb1 : b1 < B) (hw : w.heap.size ≤ B) (ht : Tg W' B bt v Ps') (hg : Chg W W' b) (hb : ∀ k, b = some k → B ≤ k) : RI w b1 B bt v W' Ps' :=
  ⟨let ⟨vs, hv⟩ := h.par; ⟨vs, hv.keep hg (.inr (by intro e; have := hb b1 (by rw [← e]; rfl); omega))⟩, ht, h.ext.chg hg (fun k hk => Nat.le_trans hw (hb k hk))⟩
open Classical in
theorem rCheck_ok (w : World) (v : Int) (a : Option Addr) (hs : List (Option Addr × Nat)) (bss : List (List Int)) (c : Nat) (h : Ints2 w a hs bss) :
    Fn PR 22 [.int .i64 v, .slice a bss.length c] w fun r w' => r = parV (chk v bss) ∧ Ext w w' := by
  refine U22 ?_
  unfold P22_0
  refine newRow (B := w.heap.size) 5 rfl (Nat.le_refl _) (by omega) fun b1 w2 hb1 hE2 hs2 h2 => ?_
  have leave : ∀ (W : World) (vs : List Value) (e : Int), Ext w W → OwnR W w.heap.size 51 (some (bl b1)) 5 5 vs → chk v bss = ((0, 0, 0, 0, 0), e) → ∀ w', Chg W w' (some b1) →
      (Value.tuple #[.agg #[.int .i64 0, .int .i64 0, .int .i64 0, .int .i64 0, .int .i64 0], .int .i64 e] = parV (chk v bss) ∧ Ext w w') := fun W vs e hE _ hc w' hg => ⟨by rw [hc]; rfl, hE.chg hg (by intro k hk; cases hk; omega)⟩
  refine cnd_decide (fun h3 => ?_) (fun h3 => ?_)
  · exact ret5 (by trivial) h2 (leave _ _ 1 hE2 h2 (by unfold chk; rw [if_pos (.inl h3)]))
  refine cnd_decide (fun h4 => ?_) (fun h4 => ?_)
  · exact ret5 (by trivial) h2 (leave _ _ 1 hE2 h2 (by unfold chk; rw [if_pos (.inr h4)]))
  have c1 : ¬ (v < 3 ∨ 200 < v) := by omega
  refine cnd_decide (fun h5 => ?_) (fun h5 => ?_)
  · exact ret5 (by trivial) h2 (leave _ _ 2 hE2 h2 (by unfold chk; rw [if_neg c1, if_pos (by omega)]))
  have c2 : ¬ (2000 < bss.length) := by omega
  refine cnd_decide (fun h6 => ?_) (fun h6 => ?_)
  · have : bss.length = 0 := by omega
    exact ret5 (by trivial) h2 (leave _ _ 60 hE2 h2 (by unfold chk; rw [if_neg c1, if_neg c2, if_pos this]))
  have hpos : 0 < bss.length := by omega
  have c3 : ¬ (bss.length = 0) := by omega
  have hh : bss.headD [] = bss[0] := by
    match bss, hpos with
    | b :: l, _ => rfl
  have c4 : chk v bss = chk2 v bss (bss[0]).length := by
    unfold chk
    rw [if_neg c1, if_neg c2, if_neg c3, hh]
  refine ix2 (i := 0) (h.ext hE2) rfl rfl hpos fun _ _ => ?_
  refine cnd_decide (fun h7 => ?_) (fun h7 => ?_)
  · exact ret5 (by trivial) h2 (leave _ _ 60 hE2 h2 (c4.trans (chk2_k (.inl (by omega)))))
  refine cnd_decide (fun h8 => ?_) (fun h8 => ?_)
  · exact ret5 (by trivial) h2 (leave _ _ 60 hE2 h2 (c4.trans (chk2_k (.inr (by omega)))))
  have c5 : ¬ ((bss[0]).length < 2 ∨ v ≤ (bss[0]).length) := by omega
  generalize hkk : (bss[0]).length = k at *
  refine ⟨⟨by omega, by omega, by omega, by omega⟩, ?_⟩
  rintro bt w3 hbt hw3
  have hT0 := Own2.made w2 w2.heap.size 25 3 v.toNat (Nat.le_refl _) (by omega)
  rw [← hw3, ← hbt] at hT0
  have hE3 : Ext w2 w3 := by rw [hw3]; exact Ext.alloc _ _
  have h3 := h2.ext hE3
  obtain ⟨B, hBe⟩ : ∃ B, B = bt := ⟨_, rfl⟩
  have hb1B : b1 < B := by omega
  have hwB : w.heap.size ≤ B := by omega
  replace hT0 : Own2 w3 B 25 3 (some (bl bt)) v.toNat v.toNat (List.replicate v.toNat (none, 0)) (List.replicate v.toNat []) := by rw [hBe]; exact hT0
  clear hw3 hBe hbt leave
  have e60 : chk v bss = ((0, 0, 0, 0, 0), 60) → (Value.tuple #[.agg #[.int .i64 0, .int .i64 0, .int .i64 0, .int .i64 0, .int .i64 0], .int .i64 60] = parV (chk v bss)) := fun hc => by rw [hc]; rfl
  have hlenb : bss.length ≤ 2000 := by omega
  have hk200 : k ≤ 200 := by omega
  refine J_loop (F := F22) hmx L22_0 (fun i : Nat => [.int .i64 v, .slice a bss.length c, .pointer (some (bl b1)), .int .i64 (k : Nat), .slice (some (bl bt)) v.toNat v.toNat, .int .i64 i])
    (fun i W => i ≤ v.toNat ∧ (∃ hs xss, Own2 W B 25 3 (some (bl bt)) v.toNat v.toNat hs xss ∧ ∀ x : Nat, x < i → xss[x]? = some (List.replicate v.toNat 0)) ∧ (∃ vs, OwnR W w.heap.size 51 (some (bl b1)) 5 5 vs) ∧ Ext w W) (fun i _ => v.toNat - i) 0 rfl
    ⟨by omega, ⟨_, _, hT0, fun x hx => by omega⟩, ⟨_, h3⟩, hE2.trans hE3⟩ ?_
  rintro i W ⟨hi, ⟨ths, txs, ht, htx⟩, ⟨vs, hv⟩, hE⟩
  refine (T22_L0 ..).mpr ?_
  simp only [P22_L0]
  refine cnd_decide (fun hlt => ?_) (fun hge => ?_)
  · refine ⟨⟨by omega, by omega, by omega, by omega⟩, ?_⟩
    rintro b4 w4 rfl rfl
    have hm := OwnR.made (w := W) (B := W.heap.size) (e := 3) (.int .i64 0) v.toNat (Nat.le_refl _) (by omega)
    have hm' : OwnR (W.alloc (.cells (Array.replicate v.toNat (.int .i64 0)) 3)) W.heap.size 3 (some (bl W.heap.size)) v.toNat v.toNat (ints (List.replicate v.toNat 0)) := by simpa [ints] using hm
    have htl := ht.ilen
    have hBW : B ≤ W.heap.size := by
      have := ht.row.lt bt rfl
      omega
    have hbne : bt ≠ b1 := by
      have := (ht.row.lt bt rfl).1
      omega
    refine ht.put hBW (Ext.alloc _ _) hm' (j := i) rfl (by omega) fun W' ht' hx' => wr (by omega) (by omega) ⟨i + 1, rfl, ⟨by omega, ⟨_, _, ht', fun x hx => ?_⟩, ?_, Below.up hx' (hE.trans (Ext.alloc _ _)) hwB⟩, by omega⟩
    · by_cases e : i = x
      · subst e; exact List.getElem?_set_self (by omega)
      · rw [List.getElem?_set_ne e]; exact htx x (by omega)
    · exact ⟨vs, (hv.ext (Ext.alloc W (.cells (Array.replicate v.toNat (.int .i64 0)) 3))).below hx' hb1B⟩
  · have : i = v.toNat := by omega
    subst this
    have hI : RI w b1 B bt v.toNat W [] := ⟨⟨vs, hv⟩, ⟨_, _, ht, fun x hx => ⟨_, htx x hx, by simp, fun y hy => by rw [List.getElem?_replicate, if_pos hy]; simp⟩⟩, hE⟩
    clear ht htx hv hE hT0 h3 hE3 ths txs vs hge
    have leave : ∀ (W : World) (Ps : List (Int × Int)) {p : Prop} {K : Int → Int → Int → Int → Int → World → Prop}, p → RI w b1 B bt v.toNat W Ps → (∀ w', Ext w w' → K 0 0 0 0 0 w') →
        sto W ((bl b1).add 0) (.int .i64 0) fun w1 => sto w1 ((bl b1).add 1) (.int .i64 0) fun w2 => sto w2 ((bl b1).add 2) (.int .i64 0) fun w3 => sto w3 ((bl b1).add 3) (.int .i64 0) fun w4 => sto w4 ((bl b1).add 4) (.int .i64 0) fun w5 =>
          ∃ x0, ∃ x1, ∃ x2, ∃ x3, ∃ x4, (p ∧ w5.cell? ((bl b1).add 0) = some (.int .i64 x0) ∧ w5.cell? ((bl b1).add 1) = some (.int .i64 x1) ∧ w5.cell? ((bl b1).add 2) = some (.int .i64 x2) ∧ w5.cell? ((bl b1).add 3) = some (.int .i64 x3) ∧ w5.cell? ((bl b1).add 4) = some (.int .i64 x4) ∧ True) ∧ K x0 x1 x2 x3 x4 w5 := by
      intro W Ps p K hp hI hK
      obtain ⟨vs, hv⟩ := hI.par
      exact ret5 hp hv fun w' hg => hK w' (hI.ext.chg hg (by intro k hk; cases hk; omega))
    refine J_loop (F := F22) hmx L22_2 (fun i : Nat => [.int .i64 v, .slice a bss.length c, .pointer (some (bl b1)), .int .i64 (k : Nat), .slice (some (bl bt)) v.toNat v.toNat, .int .i64 i])
      (fun i W => i ≤ bss.length ∧ good v k (bss.take i) ∧ RI w b1 B bt v.toNat W ((bss.take i).flatMap prs)) (fun i _ => bss.length - i) 0 rfl ⟨by omega, fun b hb => (by simp at hb), by simpa using hI⟩ ?_
    rintro i W ⟨hi, hg, hI⟩
    refine (T22_2 ..).mpr ?_
    simp only [P22_2, setA_ret, retQ_ret]
    refine cnd_decide (fun hlt => ?_) (fun hge => ?_)
    · have hi2 : i < bss.length := by omega
      have hmem : bss[i] ∈ bss := List.getElem_mem hi2
      refine ix2 (i := i) (h.ext hI.ext) rfl rfl hi2 fun _ _ => cnd_not (cnd_decide (fun hl => ?_) (fun hl => ?_))
      · refine ix2 (i := i) (h.ext hI.ext) rfl rfl hi2 fun hh2 hxbc => ?_
        have hxb := h.at hi2 hh2
        refine (rrising_ok W hs[i].1 bss[i] hs[i].2 v (hxb W hI.ext)).use ?_
        rintro _ W1 ⟨rfl, hE1⟩
        have hI1 := hI.extW hE1
        refine ⟨_, rfl, cnd_not (cnd_decide (fun hr => ?_) (fun hr => ?_))⟩
        · have hbl : bss[i].length = k := by omega
          have hr' : rise v bss[i] := hr
          have hgl := flat_len v k _ hg
          rw [List.length_take] at hgl
          have hgl2 : ((bss.take i).flatMap prs).length ≤ 2000 * (200 * 200) := Nat.le_trans hgl (Nat.mul_le_mul (by omega) (Nat.mul_le_mul hk200 hk200))
          have hnext : ((bss.take (i + 1)).flatMap prs) = (bss.take i).flatMap prs ++ prs bss[i] := by
            rw [List.take_succ_eq_append_getElem hi2, List.flatMap_append]; simp
          have hgnext : good v k (bss.take (i + 1)) := by
            rw [List.take_succ_eq_append_getElem hi2]
            intro b hb
            rcases List.mem_append.1 hb with hb | hb
            · exact hg b hb
            · simp at hb; subst hb; exact ⟨hbl, hr'⟩
          refine J_loop (F := F22) hmx L22_4 (fun j : Nat => [.int .i64 v, .slice a bss.length c, .pointer (some (bl b1)), .int .i64 (k : Nat), .slice (some (bl bt)) v.toNat v.toNat, .int .i64 i, .int .i64 j])
            (fun j W' => j ≤ k ∧ RI w b1 B bt v.toNat W' ((bss.take i).flatMap prs ++ prsTo bss[i] j)) (fun j _ => k - j) 0 rfl ⟨by omega, by simpa [prsTo] using hI1⟩ ?_
          rintro j W2 ⟨hj, hI2⟩
          refine (T22_4 ..).mpr ?_
          simp only [P22_4, setA_again, if_true]
          refine cnd_decide (fun hjlt => ?_) (fun hjge => ?_)
          · have hj2 : j < bss[i].length := by omega
            have hpl := prs_len bss[i] j (by omega)
            have hpl2 : (prsTo bss[i] j).length ≤ 200 * 200 := Nat.le_trans hpl (Nat.mul_le_mul (by omega) (by omega))
            have hxj := hr'.2 _ (List.getElem_mem hj2)
            refine J_loop (F := F22) hmx L22_6 (fun m : Nat => [.int .i64 v, .slice a bss.length c, .pointer (some (bl b1)), .int .i64 (k : Nat), .slice (some (bl bt)) v.toNat v.toNat, .int .i64 i, .int .i64 j, .int .i64 m])
              (fun m W' => m ≤ j ∧ RI w b1 B bt v.toNat W' ((bss.take i).flatMap prs ++ prsTo bss[i] j ++ (bss[i].take m).map fun y => (y, bss[i][j]))) (fun m _ => j - m) 0 rfl ⟨by omega, by simpa using hI2⟩ ?_
            rintro m W3 ⟨hm, hI3⟩
            refine (T22_6 ..).mpr ?_
            simp only [P22_6, setA_again, if_true]
            refine cnd_decide (fun hmlt => ?_) (fun hmge => ?_)
            · have hm2 : m < bss[i].length := by omega
              have hxm := hr'.2 _ (List.getElem_mem hm2)
              rintro w104 rfl
              have hI4 := hI3.drew
              have hcnt : ((bss.take i).flatMap prs ++ prsTo bss[i] j ++ (bss[i].take m).map fun y => (y, bss[i][j])).length ≤ 1000000000 := by
                rw [List.length_append, List.length_append, List.length_map, List.length_take]
                omega
              refine ix2 (i := i) (h.ext hI4.ext) rfl rfl hi2 fun hh3 _ => ix (h.at hi2 hh3 _ hI4.ext) rfl (by omega) (by omega) ?_
              refine ix2 (i := i) (h.ext hI4.ext) rfl rfl hi2 fun hh3 _ => ix (h.at hi2 hh3 _ hI4.ext) rfl (by omega) (by omega) ?_
              rw [gi_get hm2, gi_get hj2]
              refine hI4.tog.inc hxm.1 (by omega) hxj.1 (by omega) hcnt fun W4 b ht hg4 hb4 => wr (by omega) (by omega) ⟨m + 1, rfl, ⟨by omega, ?_⟩, by omega⟩
              rw [List.take_succ_eq_append_getElem hm2, List.map_append, ← List.append_assoc]
              exact hI4.inc hb1B hwB ht hg4 hb4
            · have : m = j := by omega
              subst this
              refine wr (by omega) (by omega) ⟨m + 1, rfl, ⟨by omega, ?_⟩, by omega⟩
              rw [prsTo_succ bss[i] m hj2, ← List.append_assoc]
              exact hI3
          · have : j = bss[i].length := by omega
            subst this
            rw [prsTo_all, ← hnext] at hI2
            exact wr (by omega) (by omega) ⟨i + 1, rfl, ⟨by omega, hgnext, hI2⟩, by omega⟩
        · refine leave W1 _ (by trivial) hI1 fun w' hE => ⟨e60 (c4.trans (chk2_good fun hgd => hr (hgd _ hmem).2)), hE⟩
      · refine leave W _ (by trivial) hI fun w' hE => ⟨e60 (c4.trans (chk2_good fun hgd => hl (by rw [(hgd _ hmem).1]))), hE⟩
    · have : i = bss.length := by omega
      subst this
      rw [List.take_length] at hg hI
      have hfl := flat_len v k _ hg
      have hfl2 : (bss.flatMap prs).length ≤ 2000 * (200 * 200) := Nat.le_trans hfl (Nat.mul_le_mul hlenb (Nat.mul_le_mul hk200 hk200))
      have hcl := List.count_le_length (a := ((0 : Int), (1 : Int))) (l := bss.flatMap prs)
      have htw := fun l hb => twice (l := l) (show 3 ≤ v by omega) hg hb
      refine hI.tog.read (by omega) (by omega) (by omega) (by omega) ?_
      have hc2 := fun h => c4.trans (chk2_bad (v := v) (bss := bss) (k := k) h)
      have hc3 := fun h => c4.trans (chk2_ok (v := v) (bss := bss) (k := k) c5 hg h)
      generalize hPs : bss.flatMap prs = Ps at *
      generalize hl : Ps.count ((0 : Int), (1 : Int)) = l at *
      refine J_loop (F := F22) hmx L22_8 (fun x : Int => [.int .i64 v, .slice a bss.length c, .pointer (some (bl b1)), .int .i64 (k : Nat), .slice (some (bl bt)) v.toNat v.toNat, .int .i64 (l : Nat), .int .i64 x])
        (fun x W' => (0 ≤ x ∧ x ≤ v) ∧ (∀ x' y' : Int, 0 ≤ x' → x' < x → x' < y' → y' < v → Ps.count (x', y') = l ∧ l ≠ 0) ∧ RI w b1 B bt v.toNat W' Ps) (fun x _ => (v - x).toNat) 0 rfl ⟨by omega, fun x' y' h1 h2 => by omega, hI⟩ ?_
      rintro x W1 ⟨⟨hx, hx2⟩, hall, hI1⟩
      refine (T22_8 ..).mpr ?_
      simp only [P22_8, setA_ret, retQ_ret]
      refine cnd_decide (fun hxlt => ?_) (fun hxge => ?_)
      · refine wr (by omega) (by omega) ?_
        refine J_loop (F := F22) hmx L22_10 (fun y : Int => [.int .i64 v, .slice a bss.length c, .pointer (some (bl b1)), .int .i64 (k : Nat), .slice (some (bl bt)) v.toNat v.toNat, .int .i64 (l : Nat), .int .i64 x, .int .i64 y])
          (fun y W' => (x < y ∧ y ≤ v) ∧ (∀ y' : Int, x < y' → y' < y → Ps.count (x, y') = l ∧ l ≠ 0) ∧ RI w b1 B bt v.toNat W' Ps) (fun y _ => (v - y).toNat) (x + 1) rfl ⟨by omega, fun y' h1 h2 => by omega, hI1⟩ ?_
        rintro y W2 ⟨⟨hy, hy2⟩, hally, hI2⟩
        refine (T22_10 ..).mpr ?_
        simp only [P22_10, setA_ret, setA_again, retQ_ret, if_true]
        refine cnd_decide (fun hylt => ?_) (fun hyge => ?_)
        · refine hI2.tog.read hx (by omega) (by omega) (by omega) (cnd_not (cnd_decide (fun he => ?_) (fun he => ?_)))
          · refine cnd_decide (fun h0 => ?_) (fun h0 => ?_)
            · exact leave W2 _ (by trivial) hI2 fun w' hE => ⟨e60 (hc2 fun hb => hb.1 (by omega)), hE⟩
            · refine wr (by omega) (by omega) ⟨y + 1, rfl, ⟨by omega, fun y' h1 h2 => ?_, hI2⟩, by omega⟩
              by_cases e : y' = y
              · subst e; exact ⟨by omega, by omega⟩
              · exact hally y' h1 (by omega)
          · refine leave W2 _ (by trivial) hI2 fun w' hE => ⟨e60 (hc2 fun hb => he ?_), hE⟩
            have := hb.2 x y hx hy hylt
            omega
        · have : y = v := by omega
          subst this
          refine wr (by omega) (by omega) ⟨x + 1, rfl, ⟨by omega, fun x' y' h1 h2 h3 h4 => ?_, hI2⟩, by omega⟩
          by_cases e : x' = x
          · subst e; exact hally y' h3 h4
          · exact hall x' y' h1 (by omega) h3 h4
      · have : x = v := by omega
        subst this
        have h01 := hall 0 1 (by omega) (by omega) (by omega) (by omega)
        have hbal : bal x Ps l := fun x' y' h1 h2 h3 => (hall x' y' h1 (by omega) h2 h3).1
        have htw := htw l hbal
        have hbk : 0 ≤ (bss.length : Int) * (k : Int) ∧ (bss.length : Int) * (k : Int) ≤ 2000 * 200 := ⟨Int.mul_nonneg (by omega) (by omega), Int.le_trans (Int.mul_le_mul_of_nonneg_right (show (bss.length : Int) ≤ 2000 by omega) (by omega)) (Int.mul_le_mul_of_nonneg_left (by omega) (by omega))⟩
        refine wr (by omega) (by omega) (qu (by omega) hbk.1 (by omega) ?_)
        obtain ⟨vs, hv⟩ := hI1.par
        refine ret5 (by trivial) hv fun w' hg' => ⟨?_, hI1.ext.chg hg' (by intro k hk; cases hk; omega)⟩
        rw [hc3 ⟨h01.2, hbal⟩, quot_eq (by omega) (show (0 : Int) < k - 1 by omega) htw]
        rfl
end Go.Proofs.YthekpkamedjloaaGreat
