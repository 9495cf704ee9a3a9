import Derived.Test.YthekpkamedjloaaPs
namespace Go.Proofs.Ythekpkamedjloaa
open Go.RowKit
theorem index_ok (w : World) (a : Option Addr) (xs : List Int) (c : Nat) (x : Int) (h : Ints w a xs) : Fn PR 39 [.slice a xs.length c, .int .i64 x] w fun v w' => (∃ i : Int, v = .int .i64 i ∧ (0 ≤ i ↔ x ∈ xs)) ∧ w = w' := by
  refine U39 ?_
  unfold P39_0
  refine J_loop (F := F39) hmx L39_0 (fun k : Nat => [.slice a xs.length c, .int .i64 x, .int .i64 xs.length, .int .i64 k]) (fun k w' => k ≤ xs.length ∧ (∀ y ∈ xs.take k, y ≠ x) ∧ w = w') (fun k _ => xs.length - k) 0 rfl ⟨by omega, by simp, rfl⟩ ?_
  rintro k w1 ⟨hk, hall, rfl⟩
  refine (T39_L0 ..).mpr ?_
  simp only [P39_L0, setA_ret, setA_again, retQ_ret, if_true]
  refine cnd_decide (fun hlt => ?_) (fun hge => ?_)
  · have hk2 : k < xs.length := by omega
    refine ix h rfl (by omega) (by omega) ?_
    rw [gi_get hk2]
    refine cnd_decide (fun e => ?_) (fun e => ?_)
    · exact ⟨⟨k, rfl, fun _ => by rw [e]; exact List.getElem_mem hk2, fun _ => by omega⟩, by trivial⟩
    · refine wr (by omega) (by have := h.len; omega) ⟨k + 1, rfl, ⟨by omega, fun y hy => ?_, by trivial⟩, by omega⟩
      rw [List.take_succ_eq_append_getElem hk2] at hy
      rcases List.mem_append.1 hy with hy | hy
      · exact hall y hy
      · simp at hy; subst hy; exact fun e' => e e'.symm
  · have : k = xs.length := by omega
    subst this
    rw [List.take_length] at hall
    exact ⟨⟨-1, rfl, fun h => by omega, fun hm => absurd rfl (hall x hm)⟩, by trivial⟩
theorem contains_ok (w : World) (a : Option Addr) (xs : List Int) (c : Nat) (x : Int) (h : Ints w a xs) : Fn PR 24 [.slice a xs.length c, .int .i64 x] w fun v w' => v = .bool (decide (x ∈ xs)) ∧ w = w' := by
  refine U24 ?_
  unfold P24_0
  refine (index_ok w a xs c x h).use ?_
  rintro v w1 ⟨⟨i, rfl, hi⟩, rfl⟩
  exact ⟨i, rfl, by congr 1; exact decide_eq_decide.2 hi, rfl⟩
/-! ### Places -/
def plcS (a b : Int) (xs : List Int) : Prop := xs.Pairwise (· < ·) ∧ ∀ x, x ∈ xs ↔ x = -1 ∨ x = 2 ∨ (isP x ∧ (a % x = 0 ∨ b % x = 0))
theorem plcS_unique {a b : Int} {xs ys : List Int} (h : plcS a b xs) (k : plcS a b ys) : xs = ys := rising_eq h.1 k.1 fun x => (h.2 x).trans (k.2 x).symm
theorem slt25 : SlT PR 24 3 (.int .i64 0) 8 := ⟨by kernel_rfl, by kernel_rfl, rfl, by omega⟩
theorem isP_le {a p : Int} (ha : a ≠ 0) (ha2 : a.natAbs ≤ 1000000) (h : a % p = 0) : p ≤ 1000000 := by
  have h1 : p ∣ (a.natAbs : Int) := Int.dvd_natAbs.2 (Int.dvd_of_emod_eq_zero h)
  have := Int.le_of_dvd (by omega) h1
  omega
theorem isP_odd {p : Int} (h : isP p) (h2 : p ≠ 2) : p % 2 = 1 ∧ 3 ≤ p := by
  have h1 := h.1
  have : p % 2 ≠ 0 := isP_dvd h (by omega) (by omega)
  omega
end Go.Proofs.Ythekpkamedjloaa
