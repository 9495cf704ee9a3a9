import Derived.Test.YthekpkamedjloaaGreatKh
namespace Go.Proofs.YthekpkamedjloaaGreat
open Go.RowKit
set_option linter.unusedVariables false
set_option maxRecDepth 100000

/-! ## dauber/design.isPrime -/
noncomputable def code30 : Code := match Tryz.f30.body with | some c => c | none => .skip
noncomputable def F30 : FD := { P := PR, f := 30, code := code30, nt := 11, res := Tryz.f30.results.toList, live := fun | 0 => [1, 2, 5] | _ => [], tail := fun  | _ => 0, rnd := false, ng := false }
def P30_0 (n_0 : Int) (w : World) (Q : Post) : Prop :=
  newC w (.cells #[.int .i64 n_0] 2) fun b1 w2 => newC w2 (.cells #[.bool false] 4) fun b3 w4 => ∃ x5, w4.cell? (bl b1) = some (.int .i64 x5) ∧ Fn PR 47 [.int .i64 x5] w4 fun v6 w7 => ∃ x8g, ∃ x8f, ∃ x8p, v6 = .func (.func x8g) x8f x8p ∧ J F30 (hd F30 0) 0 [.pointer (some (bl b1)), .pointer (some (bl b3)), .func (.func x8g) x8f x8p] w7 Q
theorem T30_0 (n_0 : Int) (w : World) (Q : Post) : S0 F30 1 [.int .i64 n_0] w Q = P30_0 n_0 w Q := by kernel_rfl
theorem U30 {n_0 : Int} {w : World} {R : Value → World → Prop} (hR : Holds w.heap.size R) (h : P30_0 n_0 w (retQ R)) : Fn PR 30 [.int .i64 n_0] w R := FnT_of (F := F30) (fn := Tryz.f30) hmx Tryz.func30 (by kernel_rfl) (by kernel_rfl) (by kernel_rfl) (by kernel_rfl) (by kernel_rfl) rfl hR ((T30_0 n_0 w _).mpr h)
theorem L30_0 : isRange 0 (.tmp 5) F30.nt 2 (hd F30 0) = true := by kernel_rfl
def P30_R0 (n_1 : Addr) (t_2 : Addr) (t_5g : FuncId) (t_5f : Array Value) (t_5p : Array Value) (e_6 : Int) (e_7 : Value) (w : World) (Q : Post) : Prop :=
  ∃ x9, w.cell? n_1 = some (.int .i64 x9) ∧ sto w t_2 (.bool (decide ((e_6 : Int) = (x9)))) fun w10 => Q .rret [] w10
theorem T30_R0 (n_1 : Addr) (t_2 : Addr) (t_5g : FuncId) (t_5f : Array Value) (t_5p : Array Value) (e_6 : Int) (e_7 : Value) (w : World) (Q : Post) : Rr F30 0 [.pointer (some n_1), .pointer (some t_2), .func (.func t_5g) t_5f t_5p] [.int .i64 e_6, e_7] w Q = P30_R0 n_1 t_2 t_5g t_5f t_5p e_6 e_7 w Q := by kernel_rfl
def P30_D0 (n_1 : Addr) (t_2 : Addr) (t_5g : FuncId) (t_5f : Array Value) (t_5p : Array Value) (w : World) (Q : Post) : Prop :=
  sto w t_2 (.bool false) fun w11 => ∃ x12, w11.cell? t_2 = some (.bool x12) ∧ Q .ret [.bool x12] w11
theorem T30_D0 (n_1 : Addr) (t_2 : Addr) (t_5g : FuncId) (t_5f : Array Value) (t_5p : Array Value) (w : World) (Q : Post) : Rd F30 0 [.pointer (some n_1), .pointer (some t_2), .func (.func t_5g) t_5f t_5p] w Q = P30_D0 n_1 t_2 t_5g t_5f t_5p w Q := by kernel_rfl
def P30_X0 (n_1 : Addr) (t_2 : Addr) (t_5g : FuncId) (t_5f : Array Value) (t_5p : Array Value) (w : World) (Q : Post) : Prop :=
  ∃ x13, w.cell? t_2 = some (.bool x13) ∧ Q .ret [.bool x13] w
theorem T30_X0 (n_1 : Addr) (t_2 : Addr) (t_5g : FuncId) (t_5f : Array Value) (t_5p : Array Value) (w : World) (Q : Post) : Rx F30 0 [.pointer (some n_1), .pointer (some t_2), .func (.func t_5g) t_5f t_5p] w Q = P30_X0 n_1 t_2 t_5g t_5f t_5p w Q := by kernel_rfl
/-! ## dauber/design.places -/
noncomputable def code32 : Code := match Tryz.f32.body with | some c => c | none => .skip
noncomputable def F32 : FD := { P := PR, f := 32, code := code32, nt := 34, res := Tryz.f32.results.toList, live := fun | 0 => [5, 12, 13, 14] | 2 => [5, 12, 13, 14, 19] | _ => [], tail := fun  | _ => 0, rnd := false, ng := false }
def P32_0 (a_0 : Int) (b_1 : Int) (w : World) (Q : Post) : Prop :=
  newC w (.cells #[.int .i64 (-1), .int .i64 2] 3) fun b1 w2 => newC w2 (.cells #[.slice none 0 0] 25) fun b3 w4 => sto w4 (bl b3) (.slice (some (bl b1)) 2 2) fun w5 => newC w5 (.cells #[.int .i64 a_0, .int .i64 b_1] 2) fun b6 w7 => J F32 (hd F32 0) 0 [.pointer (some (bl b3)), .slice (some (bl b6)) 2 2, .int .i64 ((2 : Nat) : Int), .int .i64 0] w7 Q
theorem T32_0 (a_0 : Int) (b_1 : Int) (w : World) (Q : Post) : S0 F32 2 [.int .i64 a_0, .int .i64 b_1] w Q = P32_0 a_0 b_1 w Q := by kernel_rfl
theorem U32 {a_0 : Int} {b_1 : Int} {w : World} {R : Value → World → Prop} (hR : Holds w.heap.size R) (h : P32_0 a_0 b_1 w (retQ R)) : Fn PR 32 [.int .i64 a_0, .int .i64 b_1] w R := FnT_of (F := F32) (fn := Tryz.f32) hmx Tryz.func32 (by kernel_rfl) (by kernel_rfl) (by kernel_rfl) (by kernel_rfl) (by kernel_rfl) rfl hR ((T32_0 a_0 b_1 w _).mpr h)
theorem L32_0 : isLoop 0 (hd F32 0) = true := by kernel_rfl
def P32_L0 (out_5 : Addr) (t_12a : Option Addr) (t_12n : Nat) (t_12c : Nat) (t_13 : Int) (t_14 : Int) (w : World) (Q : Post) : Prop :=
  cnd (decide ((t_14 : Int) < (t_13))) (0 ≤ (t_14 : Int) ∧ (t_14 : Int) < (t_12n : Nat) ∧ ∃ p8, t_12a = some p8 ∧ ∃ x9, w.cell? (p8.add ((t_14 : Int).toNat * 1)) = some (.int .i64 x9) ∧ Fn PR 47 [.int .i64 x9] w fun v10 w11 => ∃ x12g, ∃ x12f, ∃ x12p, v10 = .func (.func x12g) x12f x12p ∧ J F32 (hd F32 2) 2 [.pointer (some out_5), .slice t_12a t_12n t_12c, .int .i64 t_13, .int .i64 t_14, .func (.func x12g) x12f x12p] w11 Q) (∃ x13a, ∃ x13n, ∃ x13c, w.cell? out_5 = some (.slice x13a x13n x13c) ∧ Fn PR 41 [.slice x13a x13n x13c] w fun v14 w15 => v14 = .tuple #[] ∧ ∃ x16a, ∃ x16n, ∃ x16c, w15.cell? out_5 = some (.slice x16a x16n x16c) ∧ Q .ret [.slice x16a x16n x16c] w15)
theorem T32_L0 (out_5 : Addr) (t_12a : Option Addr) (t_12n : Nat) (t_12c : Nat) (t_13 : Int) (t_14 : Int) (w : World) (Q : Post) : S F32 0 [.pointer (some out_5), .slice t_12a t_12n t_12c, .int .i64 t_13, .int .i64 t_14] w Q = P32_L0 out_5 t_12a t_12n t_12c t_13 t_14 w Q := by kernel_rfl
theorem L32_2 : isRange 2 (.tmp 19) F32.nt 2 (hd F32 2) = true := by kernel_rfl
def P32_R2 (out_5 : Addr) (t_12a : Option Addr) (t_12n : Nat) (t_12c : Nat) (t_13 : Int) (t_14 : Int) (t_19g : FuncId) (t_19f : Array Value) (t_19p : Array Value) (e_20 : Int) (e_21 : Value) (w : World) (Q : Post) : Prop :=
  ∃ x17a, ∃ x17n, ∃ x17c, w.cell? out_5 = some (.slice x17a x17n x17c) ∧ Fn PR 45 [.slice x17a x17n x17c, .int .i64 e_20] w fun v18 w19 => ∃ x20, v18 = .bool x20 ∧ cnd (!x20) (∃ x21a, ∃ x21n, ∃ x21c, w19.cell? out_5 = some (.slice x21a x21n x21c) ∧ newC w19 (.cells #[.int .i64 e_20] 3) fun b22 w23 => app PR 25 25 25 x21a x21n x21c (some (bl b22)) 1 1 w23 fun a24 c25 w26 => sto w26 out_5 (.slice a24 (x21n + 1) c25) fun w27 => Q .fin [] w27) (Q .fin [] w19)
theorem T32_R2 (out_5 : Addr) (t_12a : Option Addr) (t_12n : Nat) (t_12c : Nat) (t_13 : Int) (t_14 : Int) (t_19g : FuncId) (t_19f : Array Value) (t_19p : Array Value) (e_20 : Int) (e_21 : Value) (w : World) (Q : Post) : Rr F32 2 [.pointer (some out_5), .slice t_12a t_12n t_12c, .int .i64 t_13, .int .i64 t_14, .func (.func t_19g) t_19f t_19p] [.int .i64 e_20, e_21] w Q = P32_R2 out_5 t_12a t_12n t_12c t_13 t_14 t_19g t_19f t_19p e_20 e_21 w Q := by kernel_rfl
def P32_D2 (out_5 : Addr) (t_12a : Option Addr) (t_12n : Nat) (t_12c : Nat) (t_13 : Int) (t_14 : Int) (t_19g : FuncId) (t_19f : Array Value) (t_19p : Array Value) (w : World) (Q : Post) : Prop :=
  ∃ r28, IntKind.i64.wrap ((t_14) + 1) = r28 ∧ Q (.again 0) [.pointer (some out_5), .slice t_12a t_12n t_12c, .int .i64 t_13, .int .i64 r28] w
theorem T32_D2 (out_5 : Addr) (t_12a : Option Addr) (t_12n : Nat) (t_12c : Nat) (t_13 : Int) (t_14 : Int) (t_19g : FuncId) (t_19f : Array Value) (t_19p : Array Value) (w : World) (Q : Post) : Rd F32 2 [.pointer (some out_5), .slice t_12a t_12n t_12c, .int .i64 t_13, .int .i64 t_14, .func (.func t_19g) t_19f t_19p] w Q = P32_D2 out_5 t_12a t_12n t_12c t_13 t_14 t_19g t_19f t_19p w Q := by kernel_rfl
/-! ## slices.AppendSeq[[]int,int] -/
noncomputable def code107 : Code := match Tryz.f107.body with | some c => c | none => .skip
noncomputable def F107 : FD := { P := PR, f := 107, code := code107, nt := 13, res := Tryz.f107.results.toList, live := fun | 0 => [2, 6] | _ => [], tail := fun  | _ => 0, rnd := false, ng := false }
def P107_0 (s_0a : Option Addr) (s_0n : Nat) (s_0c : Nat) (seq_1g : FuncId) (seq_1f : Array Value) (seq_1p : Array Value) (w : World) (Q : Post) : Prop :=
  newC w (.cells #[.slice s_0a s_0n s_0c] 25) fun b1 w2 => J F107 (hd F107 0) 0 [.pointer (some (bl b1)), .func (.func seq_1g) seq_1f seq_1p] w2 Q
theorem T107_0 (s_0a : Option Addr) (s_0n : Nat) (s_0c : Nat) (seq_1g : FuncId) (seq_1f : Array Value) (seq_1p : Array Value) (w : World) (Q : Post) : S0 F107 2 [.slice s_0a s_0n s_0c, .func (.func seq_1g) seq_1f seq_1p] w Q = P107_0 s_0a s_0n s_0c seq_1g seq_1f seq_1p w Q := by kernel_rfl
theorem U107 {s_0a : Option Addr} {s_0n : Nat} {s_0c : Nat} {seq_1g : FuncId} {seq_1f : Array Value} {seq_1p : Array Value} {w : World} {R : Value → World → Prop} (hR : Holds w.heap.size R) (h : P107_0 s_0a s_0n s_0c seq_1g seq_1f seq_1p w (retQ R)) : Fn PR 107 [.slice s_0a s_0n s_0c, .func (.func seq_1g) seq_1f seq_1p] w R := FnT_of (F := F107) (fn := Tryz.f107) hmx Tryz.func107 (by kernel_rfl) (by kernel_rfl) (by kernel_rfl) (by kernel_rfl) (by kernel_rfl) rfl hR ((T107_0 s_0a s_0n s_0c seq_1g seq_1f seq_1p w _).mpr h)
theorem L107_0 : isRange 0 (.tmp 6) F107.nt 1 (hd F107 0) = true := by kernel_rfl
def P107_R0 (s_2 : Addr) (t_6g : FuncId) (t_6f : Array Value) (t_6p : Array Value) (e_7 : Int) (w : World) (Q : Post) : Prop :=
  ∃ x3a, ∃ x3n, ∃ x3c, w.cell? s_2 = some (.slice x3a x3n x3c) ∧ newC w (.cells #[.int .i64 e_7] 3) fun b4 w5 => app PR 25 25 25 x3a x3n x3c (some (bl b4)) 1 1 w5 fun a6 c7 w8 => sto w8 s_2 (.slice a6 (x3n + 1) c7) fun w9 => Q .fin [] w9
theorem T107_R0 (s_2 : Addr) (t_6g : FuncId) (t_6f : Array Value) (t_6p : Array Value) (e_7 : Int) (w : World) (Q : Post) : Rr F107 0 [.pointer (some s_2), .func (.func t_6g) t_6f t_6p] [.int .i64 e_7] w Q = P107_R0 s_2 t_6g t_6f t_6p e_7 w Q := by kernel_rfl
def P107_D0 (s_2 : Addr) (t_6g : FuncId) (t_6f : Array Value) (t_6p : Array Value) (w : World) (Q : Post) : Prop :=
  ∃ x10a, ∃ x10n, ∃ x10c, w.cell? s_2 = some (.slice x10a x10n x10c) ∧ Q .ret [.slice x10a x10n x10c] w
theorem T107_D0 (s_2 : Addr) (t_6g : FuncId) (t_6f : Array Value) (t_6p : Array Value) (w : World) (Q : Post) : Rd F107 0 [.pointer (some s_2), .func (.func t_6g) t_6f t_6p] w Q = P107_D0 s_2 t_6g t_6f t_6p w Q := by kernel_rfl
/-! ## slices.Values[[]int,int]$1 -/
noncomputable def code77 : Code := match Tryz.f77.body with | some c => c | none => .skip
noncomputable def F77 : FD := { P := PR, f := 77, code := code77, nt := 16, res := Tryz.f77.results.toList, live := fun | 0 => [0, 5, 6, 7] | _ => [], tail := fun  | _ => 0, rnd := false, ng := true }
def P77_0 (yield_0 : Nat) (t_1 : Addr) (w : World) (Q : Post) : Prop :=
  ∃ x1a, ∃ x1n, ∃ x1c, w.cell? t_1 = some (.slice x1a x1n x1c) ∧ J F77 (hd F77 0) 0 [.func (.yield yield_0) #[] #[], .slice x1a x1n x1c, .int .i64 ((x1n : Nat) : Int), .int .i64 0] w Q
theorem T77_0 (yield_0 : Nat) (t_1 : Addr) (w : World) (Q : Post) : S0 F77 2 [.func (.yield yield_0) #[] #[], .pointer (some t_1)] w Q = P77_0 yield_0 t_1 w Q := by kernel_rfl
theorem U77 {yield_0 : Nat} {t_1 : Addr} {w : World} {R : Value → World → Prop} (h : P77_0 yield_0 t_1 w (retQ R)) : Fn PR 77 [.func (.yield yield_0) #[] #[], .pointer (some t_1)] w R := Fn_of (F := F77) (fn := Tryz.f77) hmx Tryz.func77 (by kernel_rfl) (by kernel_rfl) (by kernel_rfl) (by kernel_rfl) (by kernel_rfl) rfl rfl ((T77_0 yield_0 t_1 w _).mpr h)
theorem L77_0 : isLoop 0 (hd F77 0) = true := by kernel_rfl
def P77_L0 (yield_0 : Nat) (t_5a : Option Addr) (t_5n : Nat) (t_5c : Nat) (t_6 : Int) (t_7 : Int) (w : World) (Q : Post) : Prop :=
  cnd (decide ((t_7 : Int) < (t_6))) (0 ≤ (t_7 : Int) ∧ (t_7 : Int) < (t_5n : Nat) ∧ ∃ p2, t_5a = some p2 ∧ ∃ x3, w.cell? (p2.add ((t_7 : Int).toNat * 1)) = some (.int .i64 x3) ∧ Yd PR yield_0 [.int .i64 x3] w fun v4 w5 => ∃ x6, v4 = .bool x6 ∧ cnd (!x6) (Q .ret [.tuple #[]] w5) (∃ r7, IntKind.i64.wrap ((t_7) + 1) = r7 ∧ Q (.again 0) [.func (.yield yield_0) #[] #[], .slice t_5a t_5n t_5c, .int .i64 t_6, .int .i64 r7] w5)) (Q .ret [.tuple #[]] w)
theorem T77_L0 (yield_0 : Nat) (t_5a : Option Addr) (t_5n : Nat) (t_5c : Nat) (t_6 : Int) (t_7 : Int) (w : World) (Q : Post) : S F77 0 [.func (.yield yield_0) #[] #[], .slice t_5a t_5n t_5c, .int .i64 t_6, .int .i64 t_7] w Q = P77_L0 yield_0 t_5a t_5n t_5c t_6 t_7 w Q := by kernel_rfl
/-! ## slices.Collect[int] -/
noncomputable def code76 : Code := match Tryz.f76.body with | some c => c | none => .skip
noncomputable def F76 : FD := { P := PR, f := 76, code := code76, nt := 5, res := Tryz.f76.results.toList, live := fun  | _ => [], tail := fun  | _ => 0, rnd := false, ng := true }
def P76_0 (seq_0g : FuncId) (seq_0f : Array Value) (seq_0p : Array Value) (w : World) (Q : Post) : Prop :=
  Fn PR 107 [.slice none 0 0, .func (.func seq_0g) seq_0f seq_0p] w fun v1 w2 => ∃ x3a, ∃ x3n, ∃ x3c, v1 = .slice x3a x3n x3c ∧ Q .ret [.slice x3a x3n x3c] w2
theorem T76_0 (seq_0g : FuncId) (seq_0f : Array Value) (seq_0p : Array Value) (w : World) (Q : Post) : S0 F76 1 [.func (.func seq_0g) seq_0f seq_0p] w Q = P76_0 seq_0g seq_0f seq_0p w Q := by kernel_rfl
theorem U76 {seq_0g : FuncId} {seq_0f : Array Value} {seq_0p : Array Value} {w : World} {R : Value → World → Prop} (h : P76_0 seq_0g seq_0f seq_0p w (retQ R)) : Fn PR 76 [.func (.func seq_0g) seq_0f seq_0p] w R := Fn_of (F := F76) (fn := Tryz.f76) hmx Tryz.func76 (by kernel_rfl) (by kernel_rfl) (by kernel_rfl) (by kernel_rfl) (by kernel_rfl) rfl rfl ((T76_0 seq_0g seq_0f seq_0p w _).mpr h)
/-! ## slices.Sorted[int] -/
noncomputable def code57 : Code := match Tryz.f57.body with | some c => c | none => .skip
noncomputable def F57 : FD := { P := PR, f := 57, code := code57, nt := 9, res := Tryz.f57.results.toList, live := fun  | _ => [], tail := fun  | _ => 0, rnd := false, ng := true }
def P57_0 (seq_0g : FuncId) (seq_0f : Array Value) (seq_0p : Array Value) (w : World) (Q : Post) : Prop :=
  Fn PR 76 [.func (.func seq_0g) seq_0f seq_0p] w fun v1 w2 => ∃ x3a, ∃ x3n, ∃ x3c, v1 = .slice x3a x3n x3c ∧ Fn PR 41 [.slice x3a x3n x3c] w2 fun v4 w5 => v4 = .tuple #[] ∧ Q .ret [.slice x3a x3n x3c] w5
theorem T57_0 (seq_0g : FuncId) (seq_0f : Array Value) (seq_0p : Array Value) (w : World) (Q : Post) : S0 F57 1 [.func (.func seq_0g) seq_0f seq_0p] w Q = P57_0 seq_0g seq_0f seq_0p w Q := by kernel_rfl
theorem U57 {seq_0g : FuncId} {seq_0f : Array Value} {seq_0p : Array Value} {w : World} {R : Value → World → Prop} (h : P57_0 seq_0g seq_0f seq_0p w (retQ R)) : Fn PR 57 [.func (.func seq_0g) seq_0f seq_0p] w R := Fn_of (F := F57) (fn := Tryz.f57) hmx Tryz.func57 (by kernel_rfl) (by kernel_rfl) (by kernel_rfl) (by kernel_rfl) (by kernel_rfl) rfl rfl ((T57_0 seq_0g seq_0f seq_0p w _).mpr h)
end Go.Proofs.YthekpkamedjloaaGreat
