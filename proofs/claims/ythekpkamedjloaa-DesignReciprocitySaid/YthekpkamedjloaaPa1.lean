import Derived.Test.YthekpkamedjloaaPc2
import Derived.Test.YthekpkamedjloaaVf
namespace Go.Proofs.Ythekpkamedjloaa
open Go.RowKit
theorem sym_six : sym 6 (-1) 2 = -1 := by decide
theorem sym_six' : sym 6 (-1) (-1) = 1 := by decide
theorem isP_two : isP 2 := ⟨by omega, fun d h1 h2 => by have := sq_le h1 h2; omega⟩
theorem isP_three : isP 3 := ⟨by omega, fun d h1 h2 => by have := sq_le h1 h2; omega⟩
/-- The one verdict that awake asks for. -/
theorem judge43_ok (w : World) : Fn PR 9 [.int .i64 43, .int .i64 7, .int .i64 1] w fun v w' =>
    v = .tuple #[.agg #[.int .i64 4, .int .i64 2, .slice none 0 0, .bool false, .slice none 0 0, .bool false, .slice none 0 0, .bool false], .int .i64 0] ∧ Ext w w' := by
  refine U9 ?_
  unfold P9_0
  refine newRow (B := w.heap.size) 8 rfl (Nat.le_refl _) (by omega) fun b1 w1 hb1 hE1 hs1 h1 => ?_
  refine cnd_decide (fun h => absurd h (by omega)) (fun _ => ?_)
  refine cnd_decide (fun h => absurd h (by omega)) (fun _ => ?_)
  refine cnd_decide (fun h => absurd h (by omega)) (fun _ => ?_)
  refine cnd_decide (fun h => absurd h (by omega)) (fun _ => ?_)
  refine cnd_decide (fun h => absurd h (by omega)) (fun _ => ?_)
  refine cnd_decide (fun h => absurd h (by omega)) (fun _ => ?_)
  refine wr (by omega) (by omega) (wr (by omega) (by omega) (wr (by omega) (by omega) (qu (by omega) (by omega) (by omega) (wr (by omega) (by omega) (qu (by omega) (by omega) (by omega) (wr (by omega) (by omega) (wr (by omega) (by omega) (wr (by omega) (by omega) (rm (by omega) (by omega) ?_)))))))))
  refine cnd_not (cnd_decide (fun _ => ?_) (fun h => absurd (by decide) h))
  refine wr (by omega) (by omega) (rm (by omega) (by omega) ?_)
  refine cnd_not (cnd_decide (fun _ => ?_) (fun h => absurd (by decide) h))
  refine cnd_decide (fun h => absurd h (by decide)) (fun _ => ?_)
  refine cnd_decide (fun h => absurd h (by decide)) (fun _ => ?_)
  refine rm (by omega) (by omega) (cnd_decide (fun h => absurd h (by decide)) (fun _ => ?_))
  refine wr (by omega) (by omega) (wr (by omega) (by omega) (qu (by omega) (by omega) (by omega) ((sign_ok ..).use ?_)))
  rintro _ _ ⟨rfl, rfl⟩
  refine ⟨_, rfl, wr (by decide) (by decide) ?_⟩
  have e1 : (7 : Int) - 1 = 6 := rfl
  have e2 : sg ((43 - 1) / 2) * 1 = -1 := by decide
  rw [e1, e2]
  refine (refused_ok w1 6 (-1) (by omega) (by omega) (by decide) (by decide)).use ?_
  rintro _ w2 ⟨⟨p, ok, xs, rfl, hpl, href⟩, hE2⟩
  have h2m : (2 : Int) ∈ xs := (hpl.2 2).2 (.inr (.inl rfl))
  have hp : ok = true ∧ p = 2 := by
    rcases href with ⟨rfl, h3, h4, h5⟩ | ⟨_, _, h5⟩
    · refine ⟨rfl, ?_⟩
      rcases (hpl.2 p).1 h3 with h | h | ⟨h, _⟩
      · subst h; rw [sym_six'] at h4; omega
      · exact h
      · have h6 := h.1
        by_cases e : p = 2
        · exact e
        · exact absurd (by rw [sym_six]; omega) (h5 2 h2m (by omega))
    · exact absurd (by rw [sym_six]; omega) (h5 2 h2m)
  obtain ⟨rfl, rfl⟩ := hp
  refine ⟨_, _, rfl, cnd_true ?_⟩
  refine sto8 (h1.ext hE2) fun w3 h3 hg => ?_
  refine ⟨_, _, _, _, _, _, _, _, _, _, _, _, _, _, ⟨rfl, h3.at rfl, h3.at rfl, h3.at rfl, h3.at rfl, h3.at rfl, h3.at rfl, h3.at rfl, h3.at rfl, trivial⟩, rfl, ?_⟩
  exact (hE1.trans hE2).chg hg (by intro k hk; cases hk; omega)
def fano : List (List Int) := [[0, 1, 3], [1, 2, 4], [2, 3, 5], [3, 4, 6], [0, 4, 5], [1, 5, 6], [0, 2, 6]]
theorem chk_fano : chk 7 fano = ((7, 7, 3, 3, 1), 0) := by
  unfold chk
  rw [if_neg (by omega), if_neg (by decide), if_neg (by decide)]
  have hc : (fano.flatMap prs).count (0, 1) = 1 := by decide
  rw [chk2_ok (by decide) (by unfold good rise; decide) ⟨by rw [hc]; omega, ?_⟩]
  · rw [hc]; decide
  · rw [hc]
    intro x y h1 h2 h3
    have hy : y = 1 ∨ y = 2 ∨ y = 3 ∨ y = 4 ∨ y = 5 ∨ y = 6 := by omega
    have hx : x = 0 ∨ x = 1 ∨ x = 2 ∨ x = 3 ∨ x = 4 ∨ x = 5 := by omega
    rcases hy with rfl | rfl | rfl | rfl | rfl | rfl <;> rcases hx with rfl | rfl | rfl | rfl | rfl | rfl <;> first | (exfalso; omega) | decide
theorem awake_ok (w : World) : Fn PR 4 [] w fun v w' => v = .bool true ∧ Ext w w' := by
  refine U4 ?_
  unfold P4_0
  refine newRow (B := w.heap.size) 3 rfl (by omega) (by omega) fun b1 w1 hb1 hE1 hs1 h1 => ?_
  refine newRow (B := w.heap.size) 3 rfl (by omega) (by omega) fun b2 w2 hb2 hE2 hs2 h2 => ?_
  refine newRow (B := w.heap.size) 3 rfl (by omega) (by omega) fun b3 w3 hb3 hE3 hs3 h3 => ?_
  refine newRow (B := w.heap.size) 3 rfl (by omega) (by omega) fun b4 w4 hb4 hE4 hs4 h4 => ?_
  refine newRow (B := w.heap.size) 3 rfl (by omega) (by omega) fun b5 w5 hb5 hE5 hs5 h5 => ?_
  refine newRow (B := w.heap.size) 3 rfl (by omega) (by omega) fun b6 w6 hb6 hE6 hs6 h6 => ?_
  refine newRow (B := w.heap.size) 3 rfl (by omega) (by omega) fun b7 w7 hb7 hE7 hs7 h7 => ?_
  refine newRow (B := w.heap.size) 7 rfl (by omega) (by omega) fun b8 w8 hb8 hE8 hs8 h8 => ?_
  have e2 : Ext w2 w8 := hE3.trans (hE4.trans (hE5.trans (hE6.trans (hE7.trans hE8))))
  have e4 : Ext w4 w8 := hE5.trans (hE6.trans (hE7.trans hE8))
  have hI : Ints2 w8 (some (bl b8)) [(some (bl b1), 3), (some (bl b2), 3), (some (bl b3), 3), (some (bl b4), 3), (some (bl b5), 3), (some (bl b6), 3), (some (bl b7), 3)] fano := by
    refine ⟨h8.row, rfl, fun i hi _ => ?_, by decide⟩
    have : fano.length = 7 := rfl
    match i, hi with
    | 0, _ => exact ⟨OwnR.ints (xs := [0, 1, 3]) (h1.ext (hE2.trans e2)) (by omega), Nat.le_refl 3⟩
    | 1, _ => exact ⟨OwnR.ints (xs := [1, 2, 4]) (h2.ext e2) (by omega), Nat.le_refl 3⟩
    | 2, _ => exact ⟨OwnR.ints (xs := [2, 3, 5]) (h3.ext (hE4.trans e4)) (by omega), Nat.le_refl 3⟩
    | 3, _ => exact ⟨OwnR.ints (xs := [3, 4, 6]) (h4.ext e4) (by omega), Nat.le_refl 3⟩
    | 4, _ => exact ⟨OwnR.ints (xs := [0, 4, 5]) (h5.ext (hE6.trans (hE7.trans hE8))) (by omega), Nat.le_refl 3⟩
    | 5, _ => exact ⟨OwnR.ints (xs := [1, 5, 6]) (h6.ext (hE7.trans hE8)) (by omega), Nat.le_refl 3⟩
    | 6, _ => exact ⟨OwnR.ints (xs := [0, 2, 6]) (h7.ext hE8) (by omega), Nat.le_refl 3⟩
  have hE08 : Ext w w8 := hE1.trans (hE2.trans e2)
  refine (Check_ok w8 7 (some (bl b8)) _ fano 7 hI).use ?_
  rintro _ w9 ⟨rfl, hE9⟩
  rw [chk_fano]
  refine ⟨_, _, _, _, _, _, rfl, ?_⟩
  refine newRow (B := w.heap.size) 5 rfl (Nat.le_trans hE08.size hE9.size) (by omega) fun c1 v1 hc1 hF1 ht1 k1 => ?_
  refine sto5 k1 fun v2 k2 g2 => ?_
  have hE2' : Ext w v2 := (hE08.trans (hE9.trans hF1)).chg g2 (by intro k hk; cases hk; have := hE08.size; have := hE9.size; omega)
  refine (judge43_ok v2).use ?_
  rintro _ v3 ⟨rfl, hF3⟩
  refine ⟨_, _, _, _, _, _, _, _, _, _, _, _, _, _, _, rfl, ?_⟩
  refine newRow (B := w.heap.size) 8 rfl (Nat.le_trans hE2'.size hF3.size) (by omega) fun c2 v4 hc2 hF4 ht4 k4 => ?_
  refine sto8 k4 fun v5 k5 g5 => ?_
  have hc12 : c1 ≠ c2 := by
    have := (k2.lt c1 rfl).2
    have := hF3.size
    omega
  have k2' := ((k2.ext hF3).ext hF4).keep g5 (.inr (by simp [obl]; omega))
  have hE5' : Ext w v5 := ((hE2'.trans hF3).trans hF4).chg g5 (by intro k hk; cases hk; have := hE2'.size; have := hF3.size; omega)
  have hpl : isPl 3 := .inr ⟨by omega, isP_three⟩
  have hr : rng 2 3 = 0 := by decide
  have hs : sym 2 3 3 = -1 := by decide
  have hsy : Fn PR 6 [.int .i64 2, .int .i64 3, .int .i64 3] v5 fun v w' => v = .tuple #[.int .i64 (-1), .int .i64 0] ∧ Ext v5 w' :=
    (Symbol_ok v5 2 3 3).use (by rintro v w' ⟨rfl, h⟩; exact ⟨by simp [hr, hpl, hs], h⟩)
  refine hsy.use ?_
  rintro _ v6 ⟨rfl, hF6⟩
  refine ⟨_, _, rfl, ?_⟩
  have k2'' := k2'.ext hF6
  have k5' := k5.ext hF6
  refine cnd_decide (fun _ => ?_) (fun h => absurd rfl h)
  refine ⟨_, k2''.at rfl, cnd_decide (fun _ => ?_) (fun h => absurd rfl h)⟩
  refine ⟨_, k2''.at rfl, cnd_decide (fun _ => ?_) (fun h => absurd rfl h)⟩
  refine cnd_decide (fun _ => ?_) (fun h => absurd rfl h)
  refine ⟨_, k5'.at rfl, cnd_decide (fun _ => ?_) (fun h => absurd rfl h)⟩
  refine ⟨_, k5'.at rfl, cnd_decide (fun _ => ?_) (fun h => absurd rfl h)⟩
  refine cnd_decide (fun _ => ?_) (fun h => absurd rfl h)
  exact ⟨rfl, hE5'.trans hF6⟩
end Go.Proofs.Ythekpkamedjloaa
