import Derived.Test.YthekpkamedjloaaKh
namespace Go.Proofs.Ythekpkamedjloaa
open Go.RowKit
set_option linter.unusedVariables false
set_option maxRecDepth 100000

/-! ## dauber/design.checkEquation -/
noncomputable def code10 : Code := match Try.f10.body with | some c => c | none => .skip
noncomputable def F10 : FD := { P := PR, f := 10, code := code10, nt := 25, res := Try.f10.results.toList, live := fun  | _ => [], tail := fun  | _ => 0, rnd := false, ng := true }
def P10_0 (a_0 : Int) (b_1 : Int) (w : World) (Q : Post) : Prop :=
  cnd (decide ((a_0 : Int) = 0)) (Q .ret [.int .i64 6] w) (cnd (decide ((b_1 : Int) = 0)) (Q .ret [.int .i64 6] w) (cnd (decide ((a_0 : Int) < (-1000000))) (Q .ret [.int .i64 1] w) (cnd (decide ((1000000 : Int) < (a_0))) (Q .ret [.int .i64 1] w) (cnd (decide ((b_1 : Int) < (-1000000))) (Q .ret [.int .i64 1] w) (cnd (decide ((1000000 : Int) < (b_1))) (Q .ret [.int .i64 1] w) (Q .ret [.int .i64 0] w))))))
theorem T10_0 (a_0 : Int) (b_1 : Int) (w : World) (Q : Post) : S0 F10 2 [.int .i64 a_0, .int .i64 b_1] w Q = P10_0 a_0 b_1 w Q := by kernel_rfl
theorem U10 {a_0 : Int} {b_1 : Int} {w : World} {R : Value → World → Prop} (h : P10_0 a_0 b_1 w (retQ R)) : Fn PR 10 [.int .i64 a_0, .int .i64 b_1] w R := Fn_of (F := F10) (fn := Try.f10) hmx Try.func10 (by kernel_rfl) (by kernel_rfl) (by kernel_rfl) (by kernel_rfl) (by kernel_rfl) rfl rfl ((T10_0 a_0 b_1 w _).mpr h)
/-! ## dauber/design.symbol -/
noncomputable def code13 : Code := match Try.f13.body with | some c => c | none => .skip
noncomputable def F13 : FD := { P := PR, f := 13, code := code13, nt := 83, res := Try.f13.results.toList, live := fun  | _ => [], tail := fun  | _ => 0, rnd := false, ng := true }
def P13_0 (a_0 : Int) (b_1 : Int) (place_2 : Int) (w : World) (Q : Post) : Prop :=
  cnd (decide ((place_2 : Int) = (-1))) (cnd (decide ((a_0 : Int) < 0)) (cnd (decide ((b_1 : Int) < 0)) (Q .ret [.int .i64 (-1)] w) (Q .ret [.int .i64 1] w)) (Q .ret [.int .i64 1] w)) (Fn PR 26 [.int .i64 a_0, .int .i64 place_2] w fun v1 w2 => ∃ x3, ∃ x4, v1 = .tuple #[.int .i64 x3, .int .i64 x4] ∧ Fn PR 26 [.int .i64 b_1, .int .i64 place_2] w2 fun v5 w6 => ∃ x7, ∃ x8, v5 = .tuple #[.int .i64 x7, .int .i64 x8] ∧ cnd (decide ((place_2 : Int) = 2)) (∃ r9, IntKind.i64.wrap ((x4) - 1) = r9 ∧ (2 : Int) ≠ 0 ∧ ∃ r10, IntKind.i64.wrap ((r9 : Int).tdiv 2) = r10 ∧ ∃ r11, IntKind.i64.wrap ((x8) - 1) = r11 ∧ (2 : Int) ≠ 0 ∧ ∃ r12, IntKind.i64.wrap ((r11 : Int).tdiv 2) = r12 ∧ ∃ r13, IntKind.i64.wrap ((r10) * (r12)) = r13 ∧ ∃ r14, IntKind.i64.wrap ((x8) * (x8)) = r14 ∧ ∃ r15, IntKind.i64.wrap ((r14) - 1) = r15 ∧ (8 : Int) ≠ 0 ∧ ∃ r16, IntKind.i64.wrap ((r15 : Int).tdiv 8) = r16 ∧ ∃ r17, IntKind.i64.wrap ((x3) * (r16)) = r17 ∧ ∃ r18, IntKind.i64.wrap ((r13) + (r17)) = r18 ∧ ∃ r19, IntKind.i64.wrap ((x4) * (x4)) = r19 ∧ ∃ r20, IntKind.i64.wrap ((r19) - 1) = r20 ∧ (8 : Int) ≠ 0 ∧ ∃ r21, IntKind.i64.wrap ((r20 : Int).tdiv 8) = r21 ∧ ∃ r22, IntKind.i64.wrap ((x7) * (r21)) = r22 ∧ ∃ r23, IntKind.i64.wrap ((r18) + (r22)) = r23 ∧ Fn PR 20 [.int .i64 r23] w6 fun v24 w25 => ∃ x26, v24 = .int .i64 x26 ∧ Q .ret [.int .i64 x26] w25) (∃ r27, IntKind.i64.wrap ((x3) * (x7)) = r27 ∧ ∃ r28, IntKind.i64.wrap ((place_2) - 1) = r28 ∧ (2 : Int) ≠ 0 ∧ ∃ r29, IntKind.i64.wrap ((r28 : Int).tdiv 2) = r29 ∧ ∃ r30, IntKind.i64.wrap ((r27) * (r29)) = r30 ∧ Fn PR 20 [.int .i64 r30] w6 fun v31 w32 => ∃ x33, v31 = .int .i64 x33 ∧ (2 : Int) ≠ 0 ∧ ∃ r34, (x7 : Int).tmod 2 = r34 ∧ cnd (decide ((r34 : Int) = 1)) (Fn PR 27 [.int .i64 x4, .int .i64 place_2] w32 fun v35 w36 => ∃ x37, v35 = .int .i64 x37 ∧ ∃ r38, IntKind.i64.wrap ((x33) * (x37)) = r38 ∧ (2 : Int) ≠ 0 ∧ ∃ r39, (x3 : Int).tmod 2 = r39 ∧ cnd (decide ((r39 : Int) = 1)) (Fn PR 27 [.int .i64 x8, .int .i64 place_2] w36 fun v40 w41 => ∃ x42, v40 = .int .i64 x42 ∧ ∃ r43, IntKind.i64.wrap ((r38) * (x42)) = r43 ∧ Q .ret [.int .i64 r43] w41) (Q .ret [.int .i64 r38] w36)) ((2 : Int) ≠ 0 ∧ ∃ r44, (x3 : Int).tmod 2 = r44 ∧ cnd (decide ((r44 : Int) = 1)) (Fn PR 27 [.int .i64 x8, .int .i64 place_2] w32 fun v45 w46 => ∃ x47, v45 = .int .i64 x47 ∧ ∃ r48, IntKind.i64.wrap ((x33) * (x47)) = r48 ∧ Q .ret [.int .i64 r48] w46) (Q .ret [.int .i64 x33] w32))))
theorem T13_0 (a_0 : Int) (b_1 : Int) (place_2 : Int) (w : World) (Q : Post) : S0 F13 3 [.int .i64 a_0, .int .i64 b_1, .int .i64 place_2] w Q = P13_0 a_0 b_1 place_2 w Q := by kernel_rfl
theorem U13 {a_0 : Int} {b_1 : Int} {place_2 : Int} {w : World} {R : Value → World → Prop} (h : P13_0 a_0 b_1 place_2 w (retQ R)) : Fn PR 13 [.int .i64 a_0, .int .i64 b_1, .int .i64 place_2] w R := Fn_of (F := F13) (fn := Try.f13) hmx Try.func13 (by kernel_rfl) (by kernel_rfl) (by kernel_rfl) (by kernel_rfl) (by kernel_rfl) rfl rfl ((T13_0 a_0 b_1 place_2 w _).mpr h)
/-! ## dauber/dauberref06.Prime -/
noncomputable def code14 : Code := match Try.f14.body with | some c => c | none => .skip
noncomputable def F14 : FD := { P := PR, f := 14, code := code14, nt := 17, res := Try.f14.results.toList, live := fun | 0 => [0, 3] | _ => [], tail := fun  | _ => 0, rnd := false, ng := true }
def P14_0 (n_0 : Int) (w : World) (Q : Post) : Prop :=
  J F14 (hd F14 0) 0 [.int .i64 n_0, .int .i64 2] w Q
theorem T14_0 (n_0 : Int) (w : World) (Q : Post) : S0 F14 1 [.int .i64 n_0] w Q = P14_0 n_0 w Q := by kernel_rfl
theorem U14 {n_0 : Int} {w : World} {R : Value → World → Prop} (h : P14_0 n_0 w (retQ R)) : Fn PR 14 [.int .i64 n_0] w R := Fn_of (F := F14) (fn := Try.f14) hmx Try.func14 (by kernel_rfl) (by kernel_rfl) (by kernel_rfl) (by kernel_rfl) (by kernel_rfl) rfl rfl ((T14_0 n_0 w _).mpr h)
theorem L14_0 : isLoop 0 (hd F14 0) = true := by kernel_rfl
def P14_L0 (n_0 : Int) (d_3 : Int) (w : World) (Q : Post) : Prop :=
  ∃ r1, IntKind.i64.wrap ((d_3) * (d_3)) = r1 ∧ cnd (decide ((r1 : Int) ≤ (n_0))) ((d_3 : Int) ≠ 0 ∧ ∃ r2, (n_0 : Int).tmod (d_3) = r2 ∧ cnd (decide ((r2 : Int) = 0)) (Q .ret [.bool false] w) (∃ r3, IntKind.i64.wrap ((d_3) + 1) = r3 ∧ Q (.again 0) [.int .i64 n_0, .int .i64 r3] w)) (Q .ret [.bool (decide ((1 : Int) < (n_0)))] w)
theorem T14_L0 (n_0 : Int) (d_3 : Int) (w : World) (Q : Post) : S F14 0 [.int .i64 n_0, .int .i64 d_3] w Q = P14_L0 n_0 d_3 w Q := by kernel_rfl
/-! ## dauber/design.rising -/
noncomputable def code15 : Code := match Try.f15.body with | some c => c | none => .skip
noncomputable def F15 : FD := { P := PR, f := 15, code := code15, nt := 24, res := Try.f15.results.toList, live := fun | 0 => [1, 5, 8, 9, 10] | _ => [], tail := fun  | _ => 0, rnd := false, ng := true }
def P15_0 (l_0a : Option Addr) (l_0n : Nat) (l_0c : Nat) (n_1 : Int) (w : World) (Q : Post) : Prop :=
  J F15 (hd F15 0) 0 [.int .i64 n_1, .int .i64 (-1), .slice l_0a l_0n l_0c, .int .i64 ((l_0n : Nat) : Int), .int .i64 0] w Q
theorem T15_0 (l_0a : Option Addr) (l_0n : Nat) (l_0c : Nat) (n_1 : Int) (w : World) (Q : Post) : S0 F15 2 [.slice l_0a l_0n l_0c, .int .i64 n_1] w Q = P15_0 l_0a l_0n l_0c n_1 w Q := by kernel_rfl
theorem U15 {l_0a : Option Addr} {l_0n : Nat} {l_0c : Nat} {n_1 : Int} {w : World} {R : Value → World → Prop} (h : P15_0 l_0a l_0n l_0c n_1 w (retQ R)) : Fn PR 15 [.slice l_0a l_0n l_0c, .int .i64 n_1] w R := Fn_of (F := F15) (fn := Try.f15) hmx Try.func15 (by kernel_rfl) (by kernel_rfl) (by kernel_rfl) (by kernel_rfl) (by kernel_rfl) rfl rfl ((T15_0 l_0a l_0n l_0c n_1 w _).mpr h)
theorem L15_0 : isLoop 0 (hd F15 0) = true := by kernel_rfl
def P15_L0 (n_1 : Int) (last_5 : Int) (t_8a : Option Addr) (t_8n : Nat) (t_8c : Nat) (t_9 : Int) (t_10 : Int) (w : World) (Q : Post) : Prop :=
  cnd (decide ((t_10 : Int) < (t_9))) (0 ≤ (t_10 : Int) ∧ (t_10 : Int) < (t_8n : Nat) ∧ ∃ p1, t_8a = some p1 ∧ ∃ x2, w.cell? (p1.add ((t_10 : Int).toNat * 1)) = some (.int .i64 x2) ∧ cnd (decide ((x2 : Int) ≤ (last_5))) (Q .ret [.bool false] w) (cnd (decide ((n_1 : Int) ≤ (x2))) (Q .ret [.bool false] w) (∃ r3, IntKind.i64.wrap ((t_10) + 1) = r3 ∧ Q (.again 0) [.int .i64 n_1, .int .i64 x2, .slice t_8a t_8n t_8c, .int .i64 t_9, .int .i64 r3] w))) (Q .ret [.bool true] w)
theorem T15_L0 (n_1 : Int) (last_5 : Int) (t_8a : Option Addr) (t_8n : Nat) (t_8c : Nat) (t_9 : Int) (t_10 : Int) (w : World) (Q : Post) : S F15 0 [.int .i64 n_1, .int .i64 last_5, .slice t_8a t_8n t_8c, .int .i64 t_9, .int .i64 t_10] w Q = P15_L0 n_1 last_5 t_8a t_8n t_8c t_9 t_10 w Q := by kernel_rfl
/-! ## slices.Contains[[]int,int] -/
noncomputable def code24 : Code := match Try.f24.body with | some c => c | none => .skip
noncomputable def F24 : FD := { P := PR, f := 24, code := code24, nt := 9, res := Try.f24.results.toList, live := fun  | _ => [], tail := fun  | _ => 0, rnd := false, ng := true }
def P24_0 (s_0a : Option Addr) (s_0n : Nat) (s_0c : Nat) (v_1 : Int) (w : World) (Q : Post) : Prop :=
  Fn PR 39 [.slice s_0a s_0n s_0c, .int .i64 v_1] w fun v1 w2 => ∃ x3, v1 = .int .i64 x3 ∧ Q .ret [.bool (decide ((0 : Int) ≤ (x3)))] w2
theorem T24_0 (s_0a : Option Addr) (s_0n : Nat) (s_0c : Nat) (v_1 : Int) (w : World) (Q : Post) : S0 F24 2 [.slice s_0a s_0n s_0c, .int .i64 v_1] w Q = P24_0 s_0a s_0n s_0c v_1 w Q := by kernel_rfl
theorem U24 {s_0a : Option Addr} {s_0n : Nat} {s_0c : Nat} {v_1 : Int} {w : World} {R : Value → World → Prop} (h : P24_0 s_0a s_0n s_0c v_1 w (retQ R)) : Fn PR 24 [.slice s_0a s_0n s_0c, .int .i64 v_1] w R := Fn_of (F := F24) (fn := Try.f24) hmx Try.func24 (by kernel_rfl) (by kernel_rfl) (by kernel_rfl) (by kernel_rfl) (by kernel_rfl) rfl rfl ((T24_0 s_0a s_0n s_0c v_1 w _).mpr h)
/-! ## dauber/design.factors -/
noncomputable def code23 : Code := match Try.f23.body with | some c => c | none => .skip
noncomputable def F23 : FD := { P := PR, f := 23, code := code23, nt := 4, res := Try.f23.results.toList, live := fun  | _ => [], tail := fun  | _ => 0, rnd := false, ng := true }
def P23_0 (n_0 : Int) (w : World) (Q : Post) : Prop :=
  newC w (.cells #[.int .i64 n_0] 2) fun b1 w2 => Q .ret [.func (.func 37) #[] #[.pointer (some (bl b1))]] w2
theorem T23_0 (n_0 : Int) (w : World) (Q : Post) : S0 F23 1 [.int .i64 n_0] w Q = P23_0 n_0 w Q := by kernel_rfl
theorem U23 {n_0 : Int} {w : World} {R : Value → World → Prop} (h : P23_0 n_0 w (retQ R)) : Fn PR 23 [.int .i64 n_0] w R := Fn_of (F := F23) (fn := Try.f23) hmx Try.func23 (by kernel_rfl) (by kernel_rfl) (by kernel_rfl) (by kernel_rfl) (by kernel_rfl) rfl rfl ((T23_0 n_0 w _).mpr h)
/-! ## dauber/design.split -/
noncomputable def code26 : Code := match Try.f26.body with | some c => c | none => .skip
noncomputable def F26 : FD := { P := PR, f := 26, code := code26, nt := 17, res := Try.f26.results.toList, live := fun | 0 => [0, 1, 4] | _ => [], tail := fun  | _ => 0, rnd := false, ng := true }
def P26_0 (n_0 : Int) (p_1 : Int) (w : World) (Q : Post) : Prop :=
  J F26 (hd F26 0) 0 [.int .i64 n_0, .int .i64 p_1, .int .i64 0] w Q
theorem T26_0 (n_0 : Int) (p_1 : Int) (w : World) (Q : Post) : S0 F26 2 [.int .i64 n_0, .int .i64 p_1] w Q = P26_0 n_0 p_1 w Q := by kernel_rfl
theorem U26 {n_0 : Int} {p_1 : Int} {w : World} {R : Value → World → Prop} (h : P26_0 n_0 p_1 w (retQ R)) : Fn PR 26 [.int .i64 n_0, .int .i64 p_1] w R := Fn_of (F := F26) (fn := Try.f26) hmx Try.func26 (by kernel_rfl) (by kernel_rfl) (by kernel_rfl) (by kernel_rfl) (by kernel_rfl) rfl rfl ((T26_0 n_0 p_1 w _).mpr h)
theorem L26_0 : isLoop 0 (hd F26 0) = true := by kernel_rfl
def P26_L0 (n_0 : Int) (p_1 : Int) (exp_4 : Int) (w : World) (Q : Post) : Prop :=
  (p_1 : Int) ≠ 0 ∧ ∃ r1, (n_0 : Int).tmod (p_1) = r1 ∧ cnd (decide ((r1 : Int) = 0)) ((p_1 : Int) ≠ 0 ∧ ∃ r2, IntKind.i64.wrap ((n_0 : Int).tdiv (p_1)) = r2 ∧ ∃ r3, IntKind.i64.wrap ((exp_4) + 1) = r3 ∧ Q (.again 0) [.int .i64 r2, .int .i64 p_1, .int .i64 r3] w) (Q .ret [.tuple #[.int .i64 exp_4, .int .i64 n_0]] w)
theorem T26_L0 (n_0 : Int) (p_1 : Int) (exp_4 : Int) (w : World) (Q : Post) : S F26 0 [.int .i64 n_0, .int .i64 p_1, .int .i64 exp_4] w Q = P26_L0 n_0 p_1 exp_4 w Q := by kernel_rfl
/-! ## dauber/design.sign -/
noncomputable def code20 : Code := match Try.f20.body with | some c => c | none => .skip
noncomputable def F20 : FD := { P := PR, f := 20, code := code20, nt := 6, res := Try.f20.results.toList, live := fun  | _ => [], tail := fun  | _ => 0, rnd := false, ng := true }
def P20_0 (n_0 : Int) (w : World) (Q : Post) : Prop :=
  (2 : Int) ≠ 0 ∧ ∃ r1, (n_0 : Int).tmod 2 = r1 ∧ cnd (decide ((r1 : Int) = 0)) (Q .ret [.int .i64 1] w) (Q .ret [.int .i64 (-1)] w)
theorem T20_0 (n_0 : Int) (w : World) (Q : Post) : S0 F20 1 [.int .i64 n_0] w Q = P20_0 n_0 w Q := by kernel_rfl
theorem U20 {n_0 : Int} {w : World} {R : Value → World → Prop} (h : P20_0 n_0 w (retQ R)) : Fn PR 20 [.int .i64 n_0] w R := Fn_of (F := F20) (fn := Try.f20) hmx Try.func20 (by kernel_rfl) (by kernel_rfl) (by kernel_rfl) (by kernel_rfl) (by kernel_rfl) rfl rfl ((T20_0 n_0 w _).mpr h)
/-! ## dauber/design.character -/
noncomputable def code27 : Code := match Try.f27.body with | some c => c | none => .skip
noncomputable def F27 : FD := { P := PR, f := 27, code := code27, nt := 37, res := Try.f27.results.toList, live := fun | 0 => [1, 5, 6, 7] | _ => [], tail := fun | 1 => 8 | _ => 0, rnd := false, ng := true }
def P27_0 (n_0 : Int) (p_1 : Int) (w : World) (Q : Post) : Prop :=
  ∀ w1, w1 = w.drew → (p_1 : Int) ≠ 0 ∧ ∃ r2, (n_0 : Int).tmod (p_1) = r2 ∧ ∃ r3, IntKind.i64.wrap ((r2) + (p_1)) = r3 ∧ (p_1 : Int) ≠ 0 ∧ ∃ r4, (r3 : Int).tmod (p_1) = r4 ∧ ∃ r5, IntKind.i64.wrap ((p_1) - 1) = r5 ∧ (2 : Int) ≠ 0 ∧ ∃ r6, IntKind.i64.wrap ((r5 : Int).tdiv 2) = r6 ∧ J F27 (hd F27 0) 0 [.int .i64 p_1, .int .i64 1, .int .i64 r4, .int .i64 r6] w1 Q
theorem T27_0 (n_0 : Int) (p_1 : Int) (w : World) (Q : Post) : S0 F27 2 [.int .i64 n_0, .int .i64 p_1] w Q = P27_0 n_0 p_1 w Q := by kernel_rfl
theorem U27 {n_0 : Int} {p_1 : Int} {w : World} {R : Value → World → Prop} (h : P27_0 n_0 p_1 w (retQ R)) : Fn PR 27 [.int .i64 n_0, .int .i64 p_1] w R := Fn_of (F := F27) (fn := Try.f27) hmx Try.func27 (by kernel_rfl) (by kernel_rfl) (by kernel_rfl) (by kernel_rfl) (by kernel_rfl) rfl rfl ((T27_0 n_0 p_1 w _).mpr h)
theorem L27_0 : isLoop 0 (hd F27 0) = true := by kernel_rfl
def P27_L0 (p_1 : Int) (out_5 : Int) (x_6 : Int) (k_7 : Int) (w : World) (Q : Post) : Prop :=
  cnd (decide ((0 : Int) < (k_7))) ((2 : Int) ≠ 0 ∧ ∃ r7, (k_7 : Int).tmod 2 = r7 ∧ cnd (decide ((r7 : Int) = 1)) (∃ r8, IntKind.i64.wrap ((out_5) * (x_6)) = r8 ∧ (p_1 : Int) ≠ 0 ∧ ∃ r9, (r8 : Int).tmod (p_1) = r9 ∧ ∃ r10, IntKind.i64.wrap ((x_6) * (x_6)) = r10 ∧ (p_1 : Int) ≠ 0 ∧ ∃ r11, (r10 : Int).tmod (p_1) = r11 ∧ (2 : Int) ≠ 0 ∧ ∃ r12, IntKind.i64.wrap ((k_7 : Int).tdiv 2) = r12 ∧ Q (.again 0) [.int .i64 p_1, .int .i64 r9, .int .i64 r11, .int .i64 r12] w) (∃ r13, IntKind.i64.wrap ((x_6) * (x_6)) = r13 ∧ (p_1 : Int) ≠ 0 ∧ ∃ r14, (r13 : Int).tmod (p_1) = r14 ∧ (2 : Int) ≠ 0 ∧ ∃ r15, IntKind.i64.wrap ((k_7 : Int).tdiv 2) = r15 ∧ Q (.again 0) [.int .i64 p_1, .int .i64 out_5, .int .i64 r14, .int .i64 r15] w)) (cnd (decide ((out_5 : Int) = 1)) (Q .ret [.int .i64 1] w) (Q .ret [.int .i64 (-1)] w))
theorem T27_L0 (p_1 : Int) (out_5 : Int) (x_6 : Int) (k_7 : Int) (w : World) (Q : Post) : S F27 0 [.int .i64 p_1, .int .i64 out_5, .int .i64 x_6, .int .i64 k_7] w Q = P27_L0 p_1 out_5 x_6 k_7 w Q := by kernel_rfl
/-! ## dauber/design.refused -/
noncomputable def code21 : Code := match Try.f21.body with | some c => c | none => .skip
noncomputable def F21 : FD := { P := PR, f := 21, code := code21, nt := 23, res := Try.f21.results.toList, live := fun | 0 => [0, 1, 10, 11, 12] | _ => [], tail := fun  | _ => 0, rnd := false, ng := true }
def P21_0 (a_0 : Int) (b_1 : Int) (w : World) (Q : Post) : Prop :=
  Fn PR 11 [.int .i64 a_0, .int .i64 b_1] w fun v1 w2 => ∃ x3a, ∃ x3n, ∃ x3c, v1 = .slice x3a x3n x3c ∧ J F21 (hd F21 0) 0 [.int .i64 a_0, .int .i64 b_1, .slice x3a x3n x3c, .int .i64 ((x3n : Nat) : Int), .int .i64 0] w2 Q
theorem T21_0 (a_0 : Int) (b_1 : Int) (w : World) (Q : Post) : S0 F21 2 [.int .i64 a_0, .int .i64 b_1] w Q = P21_0 a_0 b_1 w Q := by kernel_rfl
theorem U21 {a_0 : Int} {b_1 : Int} {w : World} {R : Value → World → Prop} (h : P21_0 a_0 b_1 w (retQ R)) : Fn PR 21 [.int .i64 a_0, .int .i64 b_1] w R := Fn_of (F := F21) (fn := Try.f21) hmx Try.func21 (by kernel_rfl) (by kernel_rfl) (by kernel_rfl) (by kernel_rfl) (by kernel_rfl) rfl rfl ((T21_0 a_0 b_1 w _).mpr h)
theorem L21_0 : isLoop 0 (hd F21 0) = true := by kernel_rfl
def P21_L0 (a_0 : Int) (b_1 : Int) (t_10a : Option Addr) (t_10n : Nat) (t_10c : Nat) (t_11 : Int) (t_12 : Int) (w : World) (Q : Post) : Prop :=
  cnd (decide ((t_12 : Int) < (t_11))) (0 ≤ (t_12 : Int) ∧ (t_12 : Int) < (t_10n : Nat) ∧ ∃ p4, t_10a = some p4 ∧ ∃ x5, w.cell? (p4.add ((t_12 : Int).toNat * 1)) = some (.int .i64 x5) ∧ Fn PR 13 [.int .i64 a_0, .int .i64 b_1, .int .i64 x5] w fun v6 w7 => ∃ x8, v6 = .int .i64 x8 ∧ cnd (decide ((x8 : Int) < 0)) (Q .ret [.tuple #[.int .i64 x5, .bool true]] w7) (∃ r9, IntKind.i64.wrap ((t_12) + 1) = r9 ∧ Q (.again 0) [.int .i64 a_0, .int .i64 b_1, .slice t_10a t_10n t_10c, .int .i64 t_11, .int .i64 r9] w7)) (Q .ret [.tuple #[.int .i64 0, .bool false]] w)
theorem T21_L0 (a_0 : Int) (b_1 : Int) (t_10a : Option Addr) (t_10n : Nat) (t_10c : Nat) (t_11 : Int) (t_12 : Int) (w : World) (Q : Post) : S F21 0 [.int .i64 a_0, .int .i64 b_1, .slice t_10a t_10n t_10c, .int .i64 t_11, .int .i64 t_12] w Q = P21_L0 a_0 b_1 t_10a t_10n t_10c t_11 t_12 w Q := by kernel_rfl
/-! ## slices.Index[[]int,int] -/
noncomputable def code39 : Code := match Try.f39.body with | some c => c | none => .skip
noncomputable def F39 : FD := { P := PR, f := 39, code := code39, nt := 19, res := Try.f39.results.toList, live := fun | 0 => [0, 1, 7, 8] | _ => [], tail := fun  | _ => 0, rnd := false, ng := true }
def P39_0 (s_0a : Option Addr) (s_0n : Nat) (s_0c : Nat) (v_1 : Int) (w : World) (Q : Post) : Prop :=
  J F39 (hd F39 0) 0 [.slice s_0a s_0n s_0c, .int .i64 v_1, .int .i64 ((s_0n : Nat) : Int), .int .i64 0] w Q
theorem T39_0 (s_0a : Option Addr) (s_0n : Nat) (s_0c : Nat) (v_1 : Int) (w : World) (Q : Post) : S0 F39 2 [.slice s_0a s_0n s_0c, .int .i64 v_1] w Q = P39_0 s_0a s_0n s_0c v_1 w Q := by kernel_rfl
theorem U39 {s_0a : Option Addr} {s_0n : Nat} {s_0c : Nat} {v_1 : Int} {w : World} {R : Value → World → Prop} (h : P39_0 s_0a s_0n s_0c v_1 w (retQ R)) : Fn PR 39 [.slice s_0a s_0n s_0c, .int .i64 v_1] w R := Fn_of (F := F39) (fn := Try.f39) hmx Try.func39 (by kernel_rfl) (by kernel_rfl) (by kernel_rfl) (by kernel_rfl) (by kernel_rfl) rfl rfl ((T39_0 s_0a s_0n s_0c v_1 w _).mpr h)
theorem L39_0 : isLoop 0 (hd F39 0) = true := by kernel_rfl
def P39_L0 (s_0a : Option Addr) (s_0n : Nat) (s_0c : Nat) (v_1 : Int) (t_7 : Int) (t_8 : Int) (w : World) (Q : Post) : Prop :=
  cnd (decide ((t_8 : Int) < (t_7))) (0 ≤ (t_8 : Int) ∧ (t_8 : Int) < (s_0n : Nat) ∧ ∃ p1, s_0a = some p1 ∧ ∃ x2, w.cell? (p1.add ((t_8 : Int).toNat * 1)) = some (.int .i64 x2) ∧ cnd (decide ((v_1 : Int) = (x2))) (Q .ret [.int .i64 t_8] w) (∃ r3, IntKind.i64.wrap ((t_8) + 1) = r3 ∧ Q (.again 0) [.slice s_0a s_0n s_0c, .int .i64 v_1, .int .i64 t_7, .int .i64 r3] w)) (Q .ret [.int .i64 (-1)] w)
theorem T39_L0 (s_0a : Option Addr) (s_0n : Nat) (s_0c : Nat) (v_1 : Int) (t_7 : Int) (t_8 : Int) (w : World) (Q : Post) : S F39 0 [.slice s_0a s_0n s_0c, .int .i64 v_1, .int .i64 t_7, .int .i64 t_8] w Q = P39_L0 s_0a s_0n s_0c v_1 t_7 t_8 w Q := by kernel_rfl
/-! ## dauber/design.factors$1 -/
noncomputable def code37 : Code := match Try.f37.body with | some c => c | none => .skip
noncomputable def F37 : FD := { P := PR, f := 37, code := code37, nt := 38, res := Try.f37.results.toList, live := fun | 0 => [0, 3, 4] | 2 => [0, 3, 4, 5] | _ => [], tail := fun  | _ => 0, rnd := false, ng := true }
def P37_0 (yield_0 : Nat) (t_1 : Addr) (w : World) (Q : Post) : Prop :=
  ∃ x1, w.cell? t_1 = some (.int .i64 x1) ∧ Fn PR 38 [.int .i64 x1] w fun v2 w3 => ∃ x4, v2 = .int .i64 x4 ∧ J F37 (hd F37 0) 0 [.func (.yield yield_0) #[] #[], .int .i64 x4, .int .i64 2] w3 Q
theorem T37_0 (yield_0 : Nat) (t_1 : Addr) (w : World) (Q : Post) : S0 F37 2 [.func (.yield yield_0) #[] #[], .pointer (some t_1)] w Q = P37_0 yield_0 t_1 w Q := by kernel_rfl
theorem U37 {yield_0 : Nat} {t_1 : Addr} {w : World} {R : Value → World → Prop} (h : P37_0 yield_0 t_1 w (retQ R)) : Fn PR 37 [.func (.yield yield_0) #[] #[], .pointer (some t_1)] w R := Fn_of (F := F37) (fn := Try.f37) hmx Try.func37 (by kernel_rfl) (by kernel_rfl) (by kernel_rfl) (by kernel_rfl) (by kernel_rfl) rfl rfl ((T37_0 yield_0 t_1 w _).mpr h)
theorem L37_0 : isLoop 0 (hd F37 0) = true := by kernel_rfl
def P37_L0 (yield_0 : Nat) (n_3 : Int) (p_4 : Int) (w : World) (Q : Post) : Prop :=
  ∃ r5, IntKind.i64.wrap ((p_4) * (p_4)) = r5 ∧ cnd (decide ((r5 : Int) ≤ (n_3))) (J F37 (hd F37 2) 2 [.func (.yield yield_0) #[] #[], .int .i64 n_3, .int .i64 p_4, .int .i64 0] w Q) (cnd (decide ((1 : Int) < (n_3))) (Yd PR yield_0 [.int .i64 n_3, .int .i64 1] w fun v6 w7 => ∃ x8, v6 = .bool x8 ∧ Q .ret [.tuple #[]] w7) (Q .ret [.tuple #[]] w))
theorem T37_L0 (yield_0 : Nat) (n_3 : Int) (p_4 : Int) (w : World) (Q : Post) : S F37 0 [.func (.yield yield_0) #[] #[], .int .i64 n_3, .int .i64 p_4] w Q = P37_L0 yield_0 n_3 p_4 w Q := by kernel_rfl
theorem L37_2 : isLoop 2 (hd F37 2) = true := by kernel_rfl
def P37_2 (yield_0 : Nat) (n_3 : Int) (p_4 : Int) (exp_5 : Int) (w : World) (Q : Post) : Prop :=
  (p_4 : Int) ≠ 0 ∧ ∃ r9, (n_3 : Int).tmod (p_4) = r9 ∧ cnd (decide ((r9 : Int) = 0)) ((p_4 : Int) ≠ 0 ∧ ∃ r10, IntKind.i64.wrap ((n_3 : Int).tdiv (p_4)) = r10 ∧ ∃ r11, IntKind.i64.wrap ((exp_5) + 1) = r11 ∧ Q (.again 2) [.func (.yield yield_0) #[] #[], .int .i64 r10, .int .i64 p_4, .int .i64 r11] w) (cnd (decide ((0 : Int) < (exp_5))) (Yd PR yield_0 [.int .i64 p_4, .int .i64 exp_5] w fun v12 w13 => ∃ x14, v12 = .bool x14 ∧ cnd (!x14) (Q .ret [.tuple #[]] w13) (∃ r15, IntKind.i64.wrap ((p_4) + 1) = r15 ∧ Q (.again 0) [.func (.yield yield_0) #[] #[], .int .i64 n_3, .int .i64 r15] w13)) (∃ r16, IntKind.i64.wrap ((p_4) + 1) = r16 ∧ Q (.again 0) [.func (.yield yield_0) #[] #[], .int .i64 n_3, .int .i64 r16] w))
theorem T37_2 (yield_0 : Nat) (n_3 : Int) (p_4 : Int) (exp_5 : Int) (w : World) (Q : Post) : S F37 2 [.func (.yield yield_0) #[] #[], .int .i64 n_3, .int .i64 p_4, .int .i64 exp_5] w Q = P37_2 yield_0 n_3 p_4 exp_5 w Q := by kernel_rfl
/-! ## dauber/design.sized -/
noncomputable def code38 : Code := match Try.f38.body with | some c => c | none => .skip
noncomputable def F38 : FD := { P := PR, f := 38, code := code38, nt := 7, res := Try.f38.results.toList, live := fun  | _ => [], tail := fun  | _ => 0, rnd := false, ng := true }
def P38_0 (n_0 : Int) (w : World) (Q : Post) : Prop :=
  ∃ r1, IntKind.i64.wrap (0 - (n_0)) = r1 ∧ Q .ret [.int .i64 (if (r1 : Int) > n_0 then r1 else n_0)] w
theorem T38_0 (n_0 : Int) (w : World) (Q : Post) : S0 F38 1 [.int .i64 n_0] w Q = P38_0 n_0 w Q := by kernel_rfl
theorem U38 {n_0 : Int} {w : World} {R : Value → World → Prop} (h : P38_0 n_0 w (retQ R)) : Fn PR 38 [.int .i64 n_0] w R := Fn_of (F := F38) (fn := Try.f38) hmx Try.func38 (by kernel_rfl) (by kernel_rfl) (by kernel_rfl) (by kernel_rfl) (by kernel_rfl) rfl rfl ((T38_0 n_0 w _).mpr h)
end Go.Proofs.Ythekpkamedjloaa
