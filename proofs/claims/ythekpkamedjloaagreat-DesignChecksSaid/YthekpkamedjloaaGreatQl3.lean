/- DesignChecks: the statement's walk. -/
import Derived.Test.YthekpkamedjloaaGreatPc5
namespace Go.Proofs.YthekpkamedjloaaGreat
open Go.RowKit
theorem withE_snd (v : Int) (bss r : List (List Int)) : (withE v bss r).2 = (chk v bss).2 := by
  by_cases h : (chk v bss).2 = 0
  · rw [withE_ok h, h]
  · rw [withE_bad h]
theorem chk_long : chk 7 (List.replicate 2001 []) = ((0, 0, 0, 0, 0), 2) := by
  unfold chk
  rw [if_neg (by omega), if_pos (by rw [List.length_replicate]; omega)]
theorem checks_law (w : World) (v : Int) (a : Option Addr) (n c : Nat) (hs : List (Option Addr × Nat)) (xss : List (List Int)) (h : SlI2 w a n c hs xss) : Fn PR 5 [.int .i64 v, .slice a n c] w fun v w' => v = .bool true ∧ Ext w w' := by
  refine U5 ?_
  unfold P5_0
  refine (rawRows_ok w a n c hs xss 60 30 (by omega) (by omega) h).use ?_
  rintro _ w1 ⟨⟨a', n', c', ks, rfl, hown⟩, hE1⟩
  refine ⟨_, _, _, rfl, ?_⟩
  have hbl : ((xss.take 60).map (List.take 30)).length ≤ 60 := by simp; omega
  have hbe : ∀ b ∈ (xss.take 60).map (List.take 30), b.length ≤ 30 := by
    intro b hb
    obtain ⟨x, _, rfl⟩ := List.mem_map.1 hb
    rw [List.length_take]; omega
  generalize (xss.take 60).map (List.take 30) = bss at *
  have hnl := hown.ilen
  subst hnl
  have hI0 : Ints2 w1 a' ks bss := hown.ints2 (by omega) (fun b hb => by have := hbe b hb; omega)
  clear hown h
  refine J_loop (F := F5) hmx L5_0 (fun x : Int × Nat => [.int .i64 x.1, .slice a' bss.length c', .int .i64 x.2]) (fun x W => x.2 ≤ 2 ∧ Ext w1 W) (fun x _ => 2 - x.2) (v, 0) rfl ⟨by simp, Ext.refl _⟩ ?_
  rintro ⟨v, k⟩ W ⟨hk, hE⟩
  dsimp only at hk hE
  refine (T5_L0 ..).mpr ?_
  simp only [P5_L0, setA_ret, setA_again, retQ_ret, if_true]
  refine cnd_decide (fun hk2 => ?_) (fun hk2 => ?_)
  · have hk2 : k < 2 := by omega
    have hI := hI0.ext hE
    refine (Check_ok W v a' ks bss c' hI).use ?_
    rintro _ w5 ⟨rfl, hE5⟩
    refine ⟨_, _, _, _, _, _, rfl, newRow (B := w5.heap.size) 5 rfl (Nat.le_refl _) (by omega) fun b12 w13 hb12 hE13 hs13 h13 => sto5 h13 fun w18 h18 hg18 => ?_⟩
    have hE18 : Ext W w18 := (hE5.trans hE13).chg hg18 (by intro q hq; cases hq; have := hE5.size; omega)
    refine (rCheck_ok w18 v a' ks bss c' (hI.ext hE18)).use ?_
    rintro _ w20 ⟨rfl, hE20⟩
    refine ⟨_, _, _, _, _, _, rfl, newRow (B := w20.heap.size) 5 rfl (Nat.le_refl _) (by omega) fun b27 w28 hb27 hE28 hs28 h28 => sto5 h28 fun w33 h33 hg33 => ?_⟩
    have hE33 : Ext W w33 := ((hE18.trans hE20).trans hE28).chg hg33 (by intro q hq; cases hq; have := (hE18.trans hE20).size; omega)
    have hb12l : b12 < w20.heap.size := by
      have := hE20.size
      have := (h18.lt b12 rfl).2
      omega
    have h12 := ((h18.ext hE20).ext hE28).keep hg33 (.inr (by simp [obl]; omega))
    simp only [decide_true, Bool.not_true, cnd_F]
    refine ⟨_, _, _, _, _, ⟨trivial, five h12⟩, _, _, _, _, _, ⟨trivial, five h33⟩, (params_ok w33 ..).use ?_⟩
    rintro _ w45 ⟨rfl, hE45⟩
    refine ⟨_, rfl, ?_⟩
    simp only [Bool.not_true, cnd_F]
    have hW45 := hE33.trans hE45
    refine (dual_ok w45 v a' ks bss c' (hI.ext hW45)).use ?_
    rintro _ w48 ⟨⟨pa, pn, pc, phs, rfl, hp⟩, hE48⟩
    refine ⟨_, _, _, _, rfl, (complement_ok w48 v a' ks bss c' (hI.ext (hW45.trans hE48))).use ?_⟩
    rintro _ w52 ⟨⟨qa, qn, qc, qhs, rfl, hq⟩, hE52⟩
    refine ⟨_, _, _, _, rfl, ?_⟩
    simp only [withE_snd, decide_true, Bool.not_true, cnd_F]
    have hW52 := hW45.trans (hE48.trans hE52)
    refine cnd_not (cnd_decide (fun h0 => ?_) (fun h0 => ?_))
    · obtain ⟨hv3, hv200, _, kk, hg⟩ := chk_zero h0
      rw [withE_ok h0] at hp hq
      have hpl := hp.ilen
      have hql := hq.ilen
      have hdl : (dualR v bss).length = v.toNat := by simp [dualR]
      have hcl : (compR v bss).length = bss.length := by simp [compR]
      have hde : ∀ ys ∈ dualR v bss, ys.length ≤ 9223372036854775807 := by
        intro ys hy
        obtain ⟨x, _, rfl⟩ := List.mem_map.1 hy
        have := dualTo_len bss x bss.length
        omega
      have hce : ∀ ys ∈ compR v bss, ys.length ≤ 9223372036854775807 := by
        intro ys hy
        obtain ⟨x, _, rfl⟩ := List.mem_map.1 hy
        have := compTo_len x v.toNat
        omega
      refine (rdual_ok w52 v a' ks bss c' (hI.ext hW52) (by omega) (by omega)).use ?_
      rintro _ w65 ⟨⟨ra, rn, rc, rhs, rfl, hr⟩, hE65⟩
      have hrl := hr.ilen
      refine ⟨_, _, _, rfl, ?_⟩
      have hrows := rows_ok w65 pa ra phs rhs _ _ pc rc ((hp.ints2 (by simp only at hpl; omega) hde).ext (hE52.trans hE65)) (hr.ints2 (by omega) hde)
      simp only at hpl hql
      rw [← hpl] at hrows
      rw [show rn = pn by omega]
      refine hrows.use ?_
      rintro _ w68 ⟨rfl, hE68⟩
      refine ⟨_, rfl, ?_⟩
      simp only [decide_true, Bool.not_true, cnd_F]
      have hW68 := hW52.trans (hE65.trans hE68)
      refine (rcomplement_ok w68 v a' ks bss c' (hI.ext hW68) (by omega) (by omega)).use ?_
      rintro _ w71 ⟨⟨sa, sn, sc, shs, rfl, hs'⟩, hE71⟩
      have hsl := hs'.ilen
      refine ⟨_, _, _, rfl, ?_⟩
      have hrows := rows_ok w71 qa sa qhs shs _ _ qc sc ((hq.ints2 (by omega) hce).ext (hE65.trans (hE68.trans hE71))) (hs'.ints2 (by omega) hce)
      simp only at hrows
      rw [← hql] at hrows
      rw [show sn = qn by omega]
      refine hrows.use ?_
      rintro _ w74 ⟨rfl, hE74⟩
      refine ⟨_, rfl, ?_⟩
      simp only [decide_true, Bool.not_true, cnd_F]
      refine umodc (by omega) (by omega) fun r hr1 hr2 => wr (by omega) (by omega) (wr (by omega) (by omega) ⟨(3 + r, k + 1), rfl, ⟨by simp; omega, hE.trans (hW68.trans (hE71.trans hE74))⟩, by simp; omega⟩)
    · rw [withE_bad h0] at hp hq
      have hpl := hp.ilen
      have hql := hq.ilen
      simp at hpl hql
      refine (resolve_bad w52 v a' ks bss c' (hI.ext hW52) h0).use ?_
      rintro _ w56 ⟨rfl, hE56⟩
      refine ⟨_, _, _, _, rfl, ?_⟩
      rw [hpl, hql]
      simp only [decide_true, Bool.not_true, cnd_F, Int.natCast_zero]
      refine umodc (by omega) (by omega) fun r hr1 hr2 => wr (by omega) (by omega) (wr (by omega) (by omega) ⟨(3 + r, k + 1), rfl, ⟨by simp; omega, hE.trans (hW52.trans hE56)⟩, by simp; omega⟩)
  · refine ⟨⟨by omega, by omega, by omega, by omega⟩, ?_⟩
    rintro b w82 rfl rfl
    have hT := Own2.made W W.heap.size 25 3 2001 (Nat.le_refl _) (by omega)
    have hl : (List.replicate 2001 ([] : List Int)).length = 2001 := List.length_replicate
    have hc := Check_ok (W.alloc (.cells (Array.replicate 2001 (.slice none 0 0)) 25)) 7 (some (bl W.heap.size)) _ (List.replicate 2001 []) 2001 (hT.ints2 (by omega) (fun xs hx => by rw [(List.mem_replicate.1 hx).2]; simp))
    rw [hl, chk_long] at hc
    refine hc.use ?_
    rintro _ w84 ⟨rfl, hE84⟩
    refine ⟨_, _, _, _, _, _, rfl, newRow (B := w84.heap.size) 5 rfl (Nat.le_refl _) (by omega) fun b12 w13 hb12 hE13 hs13 h13 => sto5 h13 fun w18 h18 hg18 => ?_⟩
    have hE97 : Ext W w18 := (((Ext.alloc _ _).trans hE84).trans hE13).chg hg18 (by intro q hq; cases hq; have := ((Ext.alloc W (.cells (Array.replicate 2001 (.slice none 0 0)) 25)).trans hE84).size; omega)
    simp only [decide_true, cnd_T]
    refine (awake_ok w18).use ?_
    rintro _ w99 ⟨rfl, hE99⟩
    exact ⟨_, rfl, rfl, hE1.trans (hE.trans (hE97.trans hE99))⟩
end Go.Proofs.YthekpkamedjloaaGreat
