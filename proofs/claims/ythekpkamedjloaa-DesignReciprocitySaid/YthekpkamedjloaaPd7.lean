import Derived.Test.YthekpkamedjloaaPd6
namespace Go.Proofs.Ythekpkamedjloaa
open Go.RowKit
theorem rng_zero {a b : Int} (h : rng a b = 0) : a ≠ 0 ∧ b ≠ 0 ∧ a.natAbs ≤ 1000000 ∧ b.natAbs ≤ 1000000 := by
  unfold rng at h
  split at h
  · cases h
  · rename_i h1
    split at h
    · rename_i h2; exact ⟨fun e => h1 (.inl e), fun e => h1 (.inr e), h2⟩
    · cases h
theorem Places_ok (w : World) (a b : Int) : Fn PR 5 [.int .i64 a, .int .i64 b] w fun v w' =>
    (∃ p n c xs, v = .tuple #[.slice p n c, .int .i64 (rng a b)] ∧ OwnR w' w.heap.size 3 p n c (ints xs) ∧ (rng a b = 0 → plcS a b xs) ∧ (rng a b ≠ 0 → xs = []) ∧ n ≤ 10000000) ∧ Ext w w' := by
  refine U5 ?_
  unfold P5_0
  refine (check_ok w a b).use ?_
  rintro v w1 ⟨rfl, rfl⟩
  refine ⟨_, rfl, cnd_not (cnd_decide (fun h => ?_) (fun h => ?_))⟩
  · obtain ⟨ha, hb, ha2, hb2⟩ := rng_zero h
    refine (places_ok w a b ha hb ha2 hb2).use ?_
    rintro v w1 ⟨⟨p, n, c, xs, rfl, h1, h2, h3⟩, hE⟩
    exact ⟨_, _, _, rfl, ⟨p, n, c, xs, by rw [h], h1, fun _ => h2, fun h' => absurd h h', h3⟩, hE⟩
  · exact ⟨⟨none, 0, 0, [], rfl, OwnR.nil _ _ _, fun h' => absurd h' h, fun _ => rfl, by omega⟩, Ext.refl w⟩
/-- The first place that refuses. -/
def refS (a b : Int) (xs : List Int) (p : Int) (ok : Bool) : Prop :=
  (ok = true ∧ p ∈ xs ∧ sym a b p < 0 ∧ ∀ y ∈ xs, y < p → ¬ sym a b y < 0) ∨ (ok = false ∧ p = 0 ∧ ∀ y ∈ xs, ¬ sym a b y < 0)
theorem plcS_place {a b : Int} {xs : List Int} (h : plcS a b xs) (ha : a ≠ 0) (hb : b ≠ 0) (ha2 : a.natAbs ≤ 1000000) (hb2 : b.natAbs ≤ 1000000) : ∀ x ∈ xs, x = -1 ∨ (2 ≤ x ∧ x ≤ 1000000) := by
  intro x hx
  rcases (h.2 x).1 hx with h | h | ⟨h, h2⟩
  · exact .inl h
  · exact .inr (by omega)
  · have := h.1
    have := h2.elim (fun h3 => isP_le ha ha2 h3) (fun h3 => isP_le hb hb2 h3)
    exact .inr (by omega)
theorem pairwise_take_lt {xs : List Int} (h : xs.Pairwise (· < ·)) {k : Nat} (hk : k < xs.length) {y : Int} (hy : y ∈ xs) (hlt : y < xs[k]) : y ∈ xs.take k := by
  obtain ⟨i, hi, rfl⟩ := List.getElem_of_mem hy
  rcases Nat.lt_or_ge i k with h1 | h1
  · rw [List.mem_take_iff_getElem]
    exact ⟨i, by omega, rfl⟩
  · exfalso
    rcases Nat.eq_or_lt_of_le h1 with e | h2
    · subst e; omega
    · have := List.pairwise_iff_getElem.1 h k i hk hi h2
      omega
theorem refused_ok (w : World) (a b : Int) (ha : a ≠ 0) (hb : b ≠ 0) (ha2 : a.natAbs ≤ 1000000) (hb2 : b.natAbs ≤ 1000000) :
    Fn PR 21 [.int .i64 a, .int .i64 b] w fun v w' => (∃ p ok xs, v = .tuple #[.int .i64 p, .bool ok] ∧ plcS a b xs ∧ refS a b xs p ok) ∧ Ext w w' := by
  refine U21 ?_
  unfold P21_0
  refine (places_ok w a b ha hb ha2 hb2).use ?_
  rintro v w1 ⟨⟨p, n, c, xs, rfl, h1, h2, h3⟩, hE⟩
  refine ⟨_, _, _, rfl, ?_⟩
  have hln : n = xs.length := by have := h1.len; simpa using this.symm
  subst hln
  have hints := h1.ints (by omega)
  have hpl := plcS_place h2 ha hb ha2 hb2
  refine J_loop (F := F21) hmx L21_0 (fun k : Nat => [.int .i64 a, .int .i64 b, .slice p xs.length c, .int .i64 xs.length, .int .i64 k]) (fun k w' => k ≤ xs.length ∧ (∀ y ∈ xs.take k, ¬ sym a b y < 0) ∧ Ext w1 w') (fun k _ => xs.length - k) 0 rfl ⟨by omega, by simp, Ext.refl _⟩ ?_
  rintro k w2 ⟨hk, hall, hE2⟩
  refine (T21_L0 ..).mpr ?_
  simp only [P21_L0, setA_ret, setA_again, retQ_ret, if_true]
  refine cnd_decide (fun hlt => ?_) (fun hge => ?_)
  · have hk2 : k < xs.length := by omega
    refine ix (hints.ext hE2) rfl (by omega) (by omega) ?_
    rw [gi_get hk2]
    refine (symbol_ok w2 a b xs[k] ha hb ha2 hb2 (hpl _ (List.getElem_mem hk2))).use ?_
    rintro v w3 ⟨rfl, hE3⟩
    refine ⟨_, rfl, cnd_decide (fun hs => ?_) (fun hs => ?_)⟩
    · exact ⟨⟨_, _, xs, rfl, h2, .inl ⟨rfl, List.getElem_mem hk2, hs, fun y hy hyl => hall y (pairwise_take_lt h2.1 hk2 hy hyl)⟩⟩, hE.trans (hE2.trans hE3)⟩
    · refine wr (by omega) (by have := hints.len; omega) ⟨k + 1, rfl, ⟨by omega, fun y hy => ?_, hE2.trans hE3⟩, by omega⟩
      rw [List.take_succ_eq_append_getElem hk2] at hy
      rcases List.mem_append.1 hy with hy | hy
      · exact hall y hy
      · simp at hy; subst hy; exact hs
  · have : k = xs.length := by omega
    subst this
    rw [List.take_length] at hall
    exact ⟨⟨_, _, xs, rfl, h2, .inr ⟨rfl, rfl, hall⟩⟩, hE.trans hE2⟩
end Go.Proofs.Ythekpkamedjloaa
