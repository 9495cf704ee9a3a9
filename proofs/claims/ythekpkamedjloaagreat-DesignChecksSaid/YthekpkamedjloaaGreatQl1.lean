import Derived.Test.YthekpkamedjloaaGreatPa1
namespace Go.Proofs.YthekpkamedjloaaGreat
open Go.RowKit
theorem cnd_T (x y : Prop) : cnd true x y = x := rfl
theorem cnd_F (x y : Prop) : cnd false x y = y := rfl
theorem wrap_u {x : Int} : 0 ≤ IntKind.u64.wrap x := by
  simp only [IntKind.wrap, IntKind.bits, IntKind.signed, Bool.false_and, Bool.false_eq_true, if_false]
  exact Int.emod_nonneg _ (by omega)
theorem wrap_u_small {x : Int} (h0 : 0 ≤ x) (h1 : x < 18446744073709551616) : IntKind.u64.wrap x = x := by
  simp only [IntKind.wrap, IntKind.bits, IntKind.signed, Bool.false_and, Bool.false_eq_true, if_false]
  exact Int.emod_eq_of_lt h0 h1
/-- l[int(uint(x) % uint(len(l)))]. -/
theorem umod {x : Int} {n : Nat} {K : Int → Prop} (hn : 0 < n) (hn2 : n ≤ 10000000) (h : ∀ r : Int, 0 ≤ r → r < n → K r) :
    ∃ r26, IntKind.u64.wrap x = r26 ∧ ∃ r27, IntKind.u64.wrap (n : Int) = r27 ∧ (r27 : Int) ≠ 0 ∧ ∃ r28, (r26 : Int).tmod r27 = r28 ∧ ∃ r29, IntKind.i64.wrap r28 = r29 ∧ K r29 := by
  refine ⟨_, rfl, n, wrap_u_small (by omega) (by omega), by omega, ?_⟩
  have h0 := Int.emod_nonneg (IntKind.u64.wrap x) (show (n : Int) ≠ 0 by omega)
  have h1 := Int.emod_lt_of_pos (IntKind.u64.wrap x) (show (0 : Int) < n by omega)
  refine ⟨_, tmod_nn wrap_u, wr (by omega) (by omega) (h _ h0 h1)⟩
open Classical in
theorem symbols_law (w : World) (a b place : Int) : Fn PR 3 [.int .i64 a, .int .i64 b, .int .i64 place] w fun v w' => v = .bool true ∧ Ext w w' := by
  refine U3 ?_
  unfold P3_0
  refine J_loop (F := F3) hmx L3_0 (fun x : Int × Int × Int × Nat => [.int .i64 x.1, .int .i64 x.2.1, .int .i64 x.2.2.1, .int .i64 x.2.2.2]) (fun x w' => x.2.2.2 ≤ 2 ∧ Ext w w') (fun x _ => 2 - x.2.2.2) (a, b, place, 0) rfl ⟨by simp, Ext.refl w⟩ ?_
  rintro ⟨a, b, place, k⟩ w1 ⟨hk, hE1⟩
  dsimp only at hk
  refine (T3_L0 ..).mpr ?_
  generalize hQ : setA _ _ _ = Q
  have hR : ∀ W, Ext w W → Q .ret [.bool true] W := fun W hE => by rw [← hQ]; exact ⟨rfl, hE⟩
  have hA : ∀ (a' b' p' : Int) W, k < 2 → Ext w W → ∃ r, IntKind.i64.wrap ((k : Int) + 1) = r ∧ Q (.again 0) [.int .i64 a', .int .i64 b', .int .i64 p', .int .i64 r] W := fun a' b' p' W hk2 hE => by
    refine wr (by omega) (by omega) ?_
    rw [← hQ]
    exact ⟨(a', b', p', k + 1), rfl, ⟨by show k + 1 ≤ 2; omega, hE⟩, by show 2 - (k + 1) < 2 - k; omega⟩
  clear hQ
  unfold P3_L0
  refine cnd_decide (fun hk2 => ?_) (fun hk2 => ?_)
  · have hk2 : k < 2 := by dsimp only at hk2; omega
    refine (Symbol_ok w1 a b place).use ?_
    rintro _ w2 ⟨rfl, hE2⟩
    refine ⟨_, _, rfl, (Places_ok w2 a b).use ?_⟩
    rintro _ w3 ⟨⟨p, n, c, xs, rfl, hown, hpl0, hnil, hn⟩, hE3⟩
    refine ⟨_, _, _, _, rfl, (range_ok w3 a b).use ?_⟩
    rintro _ _ ⟨rfl, rfl⟩
    refine ⟨_, rfl, ?_⟩
    have hE : Ext w w3 := hE1.trans (hE2.trans hE3)
    have hln : n = xs.length := by have := hown.len; simpa using this.symm
    have hints : Ints w3 p xs := hown.ints (by omega)
    have tail : ∀ W, Ext w3 W → (1000 : Int) ≠ 0 ∧ ∃ r24, (a : Int).tmod 1000 = r24 ∧ (1000 : Int) ≠ 0 ∧ ∃ r25, (b : Int).tmod 1000 = r25 ∧ cnd (decide ((0 : Int) < (((n : Nat) : Int)))) (∃ r26, IntKind.u64.wrap (place) = r26 ∧ ∃ r27, IntKind.u64.wrap (((n : Nat) : Int)) = r27 ∧ (r27 : Int) ≠ 0 ∧ ∃ r28, (r26 : Int).tmod (r27) = r28 ∧ ∃ r29, IntKind.i64.wrap (r28) = r29 ∧ 0 ≤ (r29 : Int) ∧ (r29 : Int) < (n : Nat) ∧ ∃ p30, p = some p30 ∧ ∃ x31, W.cell? (p30.add ((r29 : Int).toNat * 1)) = some (.int .i64 x31) ∧ ∃ r32, IntKind.i64.wrap ((k : Int) + 1) = r32 ∧ Q (.again 0) [.int .i64 r24, .int .i64 r25, .int .i64 x31, .int .i64 r32] W) (∃ r33, IntKind.i64.wrap ((k : Int) + 1) = r33 ∧ Q (.again 0) [.int .i64 r24, .int .i64 r25, .int .i64 3, .int .i64 r33] W) := by
      intro W hEW
      refine ⟨by omega, _, rfl, by omega, _, rfl, cnd_decide (fun h0 => ?_) (fun _ => hA _ _ _ W hk2 (hE.trans hEW))⟩
      refine umod (by omega) hn fun r h1 h2 => ?_
      exact ix (hints.ext hEW) hln h1 h2 (hA _ _ _ W hk2 (hE.trans hEW))
    by_cases hr : rng a b = 0
    · have hp := hpl0 hr
      obtain ⟨ha, hb, ha2, hb2⟩ := rng_zero hr
      have e : (if rng a b ≠ 0 then rng a b else if isPl place then 0 else 1) = (if isPl place then 0 else 1) := by rw [if_neg (by simp [hr])]
      rw [e]
      clear e
      simp only [hr, cnd_T, cnd_F, eq_self, decide_true, decide_false, Bool.not_true, Bool.not_false, Int.reduceEq, true_and]
      refine (rplaces_ok w3 a b ha hb ha2 hb2).use ?_
      rintro _ w4 ⟨p', n', c', ys, rfl, hown', hp', hE4, hn'⟩
      refine ⟨_, _, _, rfl, ?_⟩
      have hln' : n' = ys.length := by have := hown'.len; simpa using this.symm
      have hxy : xs = ys := plcS_unique hp hp'
      subst hxy
      have hs := same_ok w4 p p' xs xs c c' (hints.ext hE4) (hown'.ints (by omega))
      rw [← hln, show n = n' by omega] at hs
      rw [show n = n' by omega]
      refine hs.use ?_
      rintro _ w5 ⟨rfl, hE5⟩
      refine ⟨_, rfl, ?_⟩
      rw [show n = n' by omega] at tail
      simp only [cnd_T, cnd_F, eq_self, decide_true, Bool.not_true]
      refine (isPlace_ok w5 place).use ?_
      rintro _ _ ⟨rfl, rfl⟩
      refine ⟨_, rfl, ?_⟩
      by_cases hpp : isPl place
      · simp only [hpp, cnd_T, cnd_F, eq_self, decide_true, Bool.not_true, if_true]
        have hpc : place = -1 ∨ (2 ≤ place ∧ place ≤ 1000000) := by
          rcases hpp with h | h
          · exact .inl h
          · exact .inr ⟨by have := h.2.1; omega, h.1⟩
        refine (rsym_ok w5 a b place ha hb ha2 hb2 hpc).use ?_
        rintro _ w6 ⟨rfl, hE6⟩
        refine ⟨_, rfl, ?_⟩
        simp only [cnd_T, cnd_F, eq_self, decide_true, Bool.not_true]
        exact tail w6 (hE4.trans (hE5.trans hE6))
      · simp only [hpp, cnd_T, cnd_F, eq_self, decide_true, decide_false, Bool.not_true, Bool.not_false, if_false, Int.reduceEq]
        exact tail w5 (hE4.trans hE5)
    · have e : (if rng a b ≠ 0 then rng a b else if isPl place then 0 else 1) = rng a b := by rw [if_pos hr]
      have hxs := hnil hr
      subst hxs
      have hn0 : n = 0 := by rw [hln]; rfl
      subst hn0
      rw [e]
      clear e
      simp only [hr, cnd_T, cnd_F, eq_self, decide_true, decide_false, Bool.not_true, Bool.not_false, false_and, if_false, Int.natCast_zero]
      exact tail w3 (Ext.refl _)
  · refine (awake_ok w1).use ?_
    rintro _ w2 ⟨rfl, hE2⟩
    exact ⟨_, rfl, hR w2 (hE1.trans hE2)⟩
end Go.Proofs.YthekpkamedjloaaGreat
