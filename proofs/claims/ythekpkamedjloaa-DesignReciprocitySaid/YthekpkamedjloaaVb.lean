import Derived.Test.YthekpkamedjloaaKh
namespace Go.Proofs.Ythekpkamedjloaa
open Go.RowKit
set_option linter.unusedVariables false
set_option maxRecDepth 100000

/-! ## dauber/design.isPrime -/
noncomputable def code12 : Code := match Try.f12.body with | some c => c | none => .skip
noncomputable def F12 : FD := { P := PR, f := 12, code := code12, nt := 11, res := Try.f12.results.toList, live := fun | 0 => [1, 2, 5] | _ => [], tail := fun  | _ => 0, rnd := false, ng := false }
def P12_0 (n_0 : Int) (w : World) (Q : Post) : Prop :=
  newC w (.cells #[.int .i64 n_0] 2) fun b1 w2 => newC w2 (.cells #[.bool false] 4) fun b3 w4 => ∃ x5, w4.cell? (bl b1) = some (.int .i64 x5) ∧ Fn PR 23 [.int .i64 x5] w4 fun v6 w7 => ∃ x8g, ∃ x8f, ∃ x8p, v6 = .func (.func x8g) x8f x8p ∧ J F12 (hd F12 0) 0 [.pointer (some (bl b1)), .pointer (some (bl b3)), .func (.func x8g) x8f x8p] w7 Q
theorem T12_0 (n_0 : Int) (w : World) (Q : Post) : S0 F12 1 [.int .i64 n_0] w Q = P12_0 n_0 w Q := by kernel_rfl
theorem U12 {n_0 : Int} {w : World} {R : Value → World → Prop} (hR : Holds w.heap.size R) (h : P12_0 n_0 w (retQ R)) : Fn PR 12 [.int .i64 n_0] w R := FnT_of (F := F12) (fn := Try.f12) hmx Try.func12 (by kernel_rfl) (by kernel_rfl) (by kernel_rfl) (by kernel_rfl) (by kernel_rfl) rfl hR ((T12_0 n_0 w _).mpr h)
theorem L12_0 : isRange 0 (.tmp 5) F12.nt 2 (hd F12 0) = true := by kernel_rfl
def P12_R0 (n_1 : Addr) (t_2 : Addr) (t_5g : FuncId) (t_5f : Array Value) (t_5p : Array Value) (e_6 : Int) (e_7 : Value) (w : World) (Q : Post) : Prop :=
  ∃ x9, w.cell? n_1 = some (.int .i64 x9) ∧ sto w t_2 (.bool (decide ((e_6 : Int) = (x9)))) fun w10 => Q .rret [] w10
theorem T12_R0 (n_1 : Addr) (t_2 : Addr) (t_5g : FuncId) (t_5f : Array Value) (t_5p : Array Value) (e_6 : Int) (e_7 : Value) (w : World) (Q : Post) : Rr F12 0 [.pointer (some n_1), .pointer (some t_2), .func (.func t_5g) t_5f t_5p] [.int .i64 e_6, e_7] w Q = P12_R0 n_1 t_2 t_5g t_5f t_5p e_6 e_7 w Q := by kernel_rfl
def P12_D0 (n_1 : Addr) (t_2 : Addr) (t_5g : FuncId) (t_5f : Array Value) (t_5p : Array Value) (w : World) (Q : Post) : Prop :=
  sto w t_2 (.bool false) fun w11 => ∃ x12, w11.cell? t_2 = some (.bool x12) ∧ Q .ret [.bool x12] w11
theorem T12_D0 (n_1 : Addr) (t_2 : Addr) (t_5g : FuncId) (t_5f : Array Value) (t_5p : Array Value) (w : World) (Q : Post) : Rd F12 0 [.pointer (some n_1), .pointer (some t_2), .func (.func t_5g) t_5f t_5p] w Q = P12_D0 n_1 t_2 t_5g t_5f t_5p w Q := by kernel_rfl
def P12_X0 (n_1 : Addr) (t_2 : Addr) (t_5g : FuncId) (t_5f : Array Value) (t_5p : Array Value) (w : World) (Q : Post) : Prop :=
  ∃ x13, w.cell? t_2 = some (.bool x13) ∧ Q .ret [.bool x13] w
theorem T12_X0 (n_1 : Addr) (t_2 : Addr) (t_5g : FuncId) (t_5f : Array Value) (t_5p : Array Value) (w : World) (Q : Post) : Rx F12 0 [.pointer (some n_1), .pointer (some t_2), .func (.func t_5g) t_5f t_5p] w Q = P12_X0 n_1 t_2 t_5g t_5f t_5p w Q := by kernel_rfl
/-! ## dauber/design.places -/
noncomputable def code11 : Code := match Try.f11.body with | some c => c | none => .skip
noncomputable def F11 : FD := { P := PR, f := 11, code := code11, nt := 34, res := Try.f11.results.toList, live := fun | 0 => [5, 12, 13, 14] | 2 => [5, 12, 13, 14, 19] | _ => [], tail := fun  | _ => 0, rnd := false, ng := false }
def P11_0 (a_0 : Int) (b_1 : Int) (w : World) (Q : Post) : Prop :=
  newC w (.cells #[.int .i64 (-1), .int .i64 2] 3) fun b1 w2 => newC w2 (.cells #[.slice none 0 0] 24) fun b3 w4 => sto w4 (bl b3) (.slice (some (bl b1)) 2 2) fun w5 => newC w5 (.cells #[.int .i64 a_0, .int .i64 b_1] 2) fun b6 w7 => J F11 (hd F11 0) 0 [.pointer (some (bl b3)), .slice (some (bl b6)) 2 2, .int .i64 ((2 : Nat) : Int), .int .i64 0] w7 Q
theorem T11_0 (a_0 : Int) (b_1 : Int) (w : World) (Q : Post) : S0 F11 2 [.int .i64 a_0, .int .i64 b_1] w Q = P11_0 a_0 b_1 w Q := by kernel_rfl
theorem U11 {a_0 : Int} {b_1 : Int} {w : World} {R : Value → World → Prop} (hR : Holds w.heap.size R) (h : P11_0 a_0 b_1 w (retQ R)) : Fn PR 11 [.int .i64 a_0, .int .i64 b_1] w R := FnT_of (F := F11) (fn := Try.f11) hmx Try.func11 (by kernel_rfl) (by kernel_rfl) (by kernel_rfl) (by kernel_rfl) (by kernel_rfl) rfl hR ((T11_0 a_0 b_1 w _).mpr h)
theorem L11_0 : isLoop 0 (hd F11 0) = true := by kernel_rfl
def P11_L0 (out_5 : Addr) (t_12a : Option Addr) (t_12n : Nat) (t_12c : Nat) (t_13 : Int) (t_14 : Int) (w : World) (Q : Post) : Prop :=
  cnd (decide ((t_14 : Int) < (t_13))) (0 ≤ (t_14 : Int) ∧ (t_14 : Int) < (t_12n : Nat) ∧ ∃ p8, t_12a = some p8 ∧ ∃ x9, w.cell? (p8.add ((t_14 : Int).toNat * 1)) = some (.int .i64 x9) ∧ Fn PR 23 [.int .i64 x9] w fun v10 w11 => ∃ x12g, ∃ x12f, ∃ x12p, v10 = .func (.func x12g) x12f x12p ∧ J F11 (hd F11 2) 2 [.pointer (some out_5), .slice t_12a t_12n t_12c, .int .i64 t_13, .int .i64 t_14, .func (.func x12g) x12f x12p] w11 Q) (∃ x13a, ∃ x13n, ∃ x13c, w.cell? out_5 = some (.slice x13a x13n x13c) ∧ Fn PR 25 [.slice x13a x13n x13c] w fun v14 w15 => v14 = .tuple #[] ∧ ∃ x16a, ∃ x16n, ∃ x16c, w15.cell? out_5 = some (.slice x16a x16n x16c) ∧ Q .ret [.slice x16a x16n x16c] w15)
theorem T11_L0 (out_5 : Addr) (t_12a : Option Addr) (t_12n : Nat) (t_12c : Nat) (t_13 : Int) (t_14 : Int) (w : World) (Q : Post) : S F11 0 [.pointer (some out_5), .slice t_12a t_12n t_12c, .int .i64 t_13, .int .i64 t_14] w Q = P11_L0 out_5 t_12a t_12n t_12c t_13 t_14 w Q := by kernel_rfl
theorem L11_2 : isRange 2 (.tmp 19) F11.nt 2 (hd F11 2) = true := by kernel_rfl
def P11_R2 (out_5 : Addr) (t_12a : Option Addr) (t_12n : Nat) (t_12c : Nat) (t_13 : Int) (t_14 : Int) (t_19g : FuncId) (t_19f : Array Value) (t_19p : Array Value) (e_20 : Int) (e_21 : Value) (w : World) (Q : Post) : Prop :=
  ∃ x17a, ∃ x17n, ∃ x17c, w.cell? out_5 = some (.slice x17a x17n x17c) ∧ Fn PR 24 [.slice x17a x17n x17c, .int .i64 e_20] w fun v18 w19 => ∃ x20, v18 = .bool x20 ∧ cnd (!x20) (∃ x21a, ∃ x21n, ∃ x21c, w19.cell? out_5 = some (.slice x21a x21n x21c) ∧ newC w19 (.cells #[.int .i64 e_20] 3) fun b22 w23 => app PR 24 24 24 x21a x21n x21c (some (bl b22)) 1 1 w23 fun a24 c25 w26 => sto w26 out_5 (.slice a24 (x21n + 1) c25) fun w27 => Q .fin [] w27) (Q .fin [] w19)
theorem T11_R2 (out_5 : Addr) (t_12a : Option Addr) (t_12n : Nat) (t_12c : Nat) (t_13 : Int) (t_14 : Int) (t_19g : FuncId) (t_19f : Array Value) (t_19p : Array Value) (e_20 : Int) (e_21 : Value) (w : World) (Q : Post) : Rr F11 2 [.pointer (some out_5), .slice t_12a t_12n t_12c, .int .i64 t_13, .int .i64 t_14, .func (.func t_19g) t_19f t_19p] [.int .i64 e_20, e_21] w Q = P11_R2 out_5 t_12a t_12n t_12c t_13 t_14 t_19g t_19f t_19p e_20 e_21 w Q := by kernel_rfl
def P11_D2 (out_5 : Addr) (t_12a : Option Addr) (t_12n : Nat) (t_12c : Nat) (t_13 : Int) (t_14 : Int) (t_19g : FuncId) (t_19f : Array Value) (t_19p : Array Value) (w : World) (Q : Post) : Prop :=
  ∃ r28, IntKind.i64.wrap ((t_14) + 1) = r28 ∧ Q (.again 0) [.pointer (some out_5), .slice t_12a t_12n t_12c, .int .i64 t_13, .int .i64 r28] w
theorem T11_D2 (out_5 : Addr) (t_12a : Option Addr) (t_12n : Nat) (t_12c : Nat) (t_13 : Int) (t_14 : Int) (t_19g : FuncId) (t_19f : Array Value) (t_19p : Array Value) (w : World) (Q : Post) : Rd F11 2 [.pointer (some out_5), .slice t_12a t_12n t_12c, .int .i64 t_13, .int .i64 t_14, .func (.func t_19g) t_19f t_19p] w Q = P11_D2 out_5 t_12a t_12n t_12c t_13 t_14 t_19g t_19f t_19p w Q := by kernel_rfl
end Go.Proofs.Ythekpkamedjloaa
