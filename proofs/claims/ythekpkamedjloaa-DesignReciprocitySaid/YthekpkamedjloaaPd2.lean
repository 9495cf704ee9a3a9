import Derived.Test.YthekpkamedjloaaPd1
import Derived.Test.YthekpkamedjloaaM2
import Derived.Test.YthekpkamedjloaaVa
import Derived.Test.YthekpkamedjloaaKw
namespace Go.Proofs.Ythekpkamedjloaa
open Go.RowKit
theorem factors_ok (w : World) (n : Int) : Fn PR 23 [.int .i64 n] w fun v w' => ∃ b, v = .func (.func 37) #[] #[.pointer (some (bl b))] ∧ w.heap.size ≤ b ∧ Box w' b (.int .i64 n) ∧ Ext w w' := by
  refine U23 ?_
  unfold P23_0
  rintro b w1 rfl rfl
  exact ⟨_, rfl, Nat.le_refl _, Box.new w _ _, Ext.alloc _ _⟩
def encF (x : Int × Int) : List Value := [.int .i64 x.1, .int .i64 x.2]
theorem prefix_snoc {α : Type} {pre l xs : List α} {x : α} (h : pre ++ x :: l = xs) : pre ++ [x] <+: xs := ⟨l, by rw [← h]; simp⟩
/-- The primes of n, with their exponents, one after another. -/
theorem factors_iter (w : World) (n : Int) (b : Nat) (hn : n ≠ 0) (hn2 : n.natAbs ≤ 1000000) (hb : Box w b (.int .i64 n)) (xs : List (Int × Int)) (hx : Facs 2 n.natAbs xs) (I : List (Int × Int) → World → Prop) :
    Iter PR 37 [.pointer (some (bl b))] encF xs w Ext I := by
  intro l Jv Jx W hE _ hJ hJx hY h0
  refine U37 ?_
  unfold P37_0
  refine ⟨n, hE.cell hb.cell, (sized_ok W n (by omega)).use ?_⟩
  rintro v w1 ⟨rfl, rfl⟩
  refine ⟨_, rfl, ?_⟩
  refine J_loop (F := F37) hmx L37_0 (fun x : List (Int × Int) × Int × Int => [.func (.yield l) #[] #[], .int .i64 x.2.1, .int .i64 x.2.2])
    (fun x w' => Jv x.1 w' ∧ (1 ≤ x.2.1 ∧ x.2.1 ≤ 1000000) ∧ (2 ≤ x.2.2 ∧ x.2.2 ≤ 1000001) ∧ ∃ r, Facs x.2.2 x.2.1 r ∧ x.1 ++ r = xs) (fun x _ => (x.2.1 + 1 - x.2.2).toNat + (if x.2.2 * x.2.2 ≤ x.2.1 then 1 else 0)) ([], (n.natAbs : Int), 2) rfl
    ⟨h0, by simp; omega, by simp, xs, hx, rfl⟩ ?_
  rintro ⟨pre, m, p⟩ w1 ⟨hj, ⟨hm, hm2⟩, ⟨hp, hpb2⟩, r, hr, hpre⟩
  dsimp only at hj hm hm2 hp hpb2 hr hpre
  refine (T37_L0 ..).mpr ?_
  simp only [P37_L0, setA_ret, setA_again, retQ_ret, if_true]
  have hpp : 0 ≤ p * p ∧ p * p ≤ 1000001 * 1000001 := ⟨Int.mul_nonneg (by omega) (by omega), Int.le_trans (Int.mul_le_mul_of_nonneg_right hpb2 (by omega)) (Int.mul_le_mul_of_nonneg_left hpb2 (by omega))⟩
  refine wr (by omega) (by omega) (cnd_decide (fun hle => ?_) (fun hgt => ?_))
  · -- the inner loop
    have h2p := sq_le hp hle
    refine J_loop (F := F37) hmx L37_2 (fun x : Nat × Int => [.func (.yield l) #[] #[], .int .i64 x.2, .int .i64 p, .int .i64 x.1]) (fun x w' => m = x.2 * p ^ x.1 ∧ Jv pre w') (fun x _ => x.2.natAbs) (0, m) rfl ⟨by simp, hj⟩ ?_
    rintro ⟨e, u⟩ w2 ⟨hu, hj2⟩
    dsimp only at hu hj2
    refine (T37_2 ..).mpr ?_
    simp only [P37_2, setA_ret, setA_again, retQ_ret, if_true]
    have hs := take_small hp hm hu
    have hpe := pow_ge hp e
    have hem : (e : Int) + 1 ≤ m := by
      have : 1 * p ^ e ≤ u * p ^ e := Int.mul_le_mul_of_nonneg_right hs.1 (by omega)
      omega
    refine ⟨by omega, _, rfl, cnd_decide (fun h => ?_) (fun h => ?_)⟩
    · have h := tmod_zero.1 h
      have h4 := small_div hp h
      refine ⟨by omega, _, rfl, ?_⟩
      rw [tdiv_exact h]
      obtain ⟨r', h5, h6⟩ := wr (e := u / p) (p := fun r => r = u / p) (by omega) (by omega) rfl
      rw [h5, h6]
      refine wr (by omega) (by omega) ⟨(e + 1, u / p), rfl, ⟨step_pow hu h, hj2⟩, ?_⟩
      show (u / p).natAbs < u.natAbs
      omega
    · have hup : u % p ≠ 0 := fun h' => h (tmod_zero.2 h')
      have hdec : ∀ u' : Int, u' ≤ m → (u' + 1 - (p + 1)).toNat + (if (p + 1) * (p + 1) ≤ u' then 1 else 0) < (m + 1 - p).toNat + (if p * p ≤ m then 1 else 0) := by
        intro u' h'
        rw [if_pos hle]
        split <;> omega
      refine cnd_decide (fun he => ?_) (fun he => ?_)
      · -- p divides
        cases hr with
        | one h1 => exact absurd hle h1
        | last h1 => exact absurd hle h1
        | skip _ h1 =>
          exfalso
          obtain ⟨e', rfl⟩ : ∃ e', e = e' + 1 := ⟨e - 1, by omega⟩
          apply h1
          rw [hu, Int.pow_succ, ← Int.mul_assoc]
          exact Int.mul_emod_left _ _
        | @take _ _ u' e' r' _ h1 h2 h3 h4 =>
          obtain ⟨rfl, rfl⟩ := spl_unique hp (h1.symm.trans hu) h3 hup
          refine (hY pre (p, (e' : Int)) w2 (prefix_snoc hpre) hj2).use ?_
          rintro v w3 (⟨rfl, hj3⟩ | ⟨rfl, hj3⟩)
          · refine ⟨_, rfl, cnd_not (cnd_true ?_)⟩
            refine wr (by omega) (by omega) ⟨(pre ++ [(p, (e' : Int))], u', p + 1), rfl, ⟨hj3, ⟨hs.1, by show u' ≤ 1000000; omega⟩, by simp; omega, r', h4, by simpa using hpre⟩, hdec u' hs.2.1⟩
          · exact ⟨_, rfl, cnd_not (cnd_false (.inr ⟨_, hj3⟩))⟩
      · have he0 : e = 0 := by omega
        subst he0
        have hum : u = m := by simpa using hu.symm
        subst hum
        cases hr with
        | one h1 => exact absurd hle h1
        | last h1 => exact absurd hle h1
        | take _ h1 h2 h3 h4 =>
          exfalso
          rename_i e' _ _
          obtain ⟨e'', rfl⟩ : ∃ e'', e' = e'' + 1 := ⟨e' - 1, by omega⟩
          apply hup
          rw [h1, Int.pow_succ, ← Int.mul_assoc]
          exact Int.mul_emod_left _ _
        | skip _ h1 h2 =>
          refine wr (by omega) (by omega) ⟨(pre, u, p + 1), rfl, ⟨hj2, ⟨hs.1, by show u ≤ 1000000; omega⟩, by simp; omega, r, h2, hpre⟩, hdec u (Int.le_refl _)⟩
  · cases hr with
    | take h1 => exact absurd h1 hgt
    | skip h1 => exact absurd h1 hgt
    | one _ h1 =>
      rw [List.append_nil] at hpre
      subst hpre
      exact cnd_decide (fun h => absurd h h1) (fun _ => .inl hj)
    | last _ h1 =>
      refine cnd_decide (fun _ => ?_) (fun h => absurd h1 h)
      refine (hY pre (m, 1) w1 (prefix_snoc hpre) hj).use ?_
      rintro v w3 (⟨rfl, hj3⟩ | ⟨rfl, hj3⟩)
      · exact ⟨_, rfl, .inl (by rw [← hpre]; exact hj3)⟩
      · exact ⟨_, rfl, .inr ⟨_, hj3⟩⟩
end Go.Proofs.Ythekpkamedjloaa
