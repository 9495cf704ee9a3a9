import Derived.Test.YthekpkamedjloaaGreatKh
namespace Go.Proofs.YthekpkamedjloaaGreat
open Go.RowKit
set_option linter.unusedVariables false
set_option maxRecDepth 100000

/-! ## dauber/design.checkEquation -/
noncomputable def code29 : Code := match Tryz.f29.body with | some c => c | none => .skip
noncomputable def F29 : FD := { P := PR, f := 29, code := code29, nt := 25, res := Tryz.f29.results.toList, live := fun  | _ => [], tail := fun  | _ => 0, rnd := false, ng := true }
def P29_0 (a_0 : Int) (b_1 : Int) (w : World) (Q : Post) : Prop :=
  cnd (decide ((a_0 : Int) = 0)) (Q .ret [.int .i64 6] w) (cnd (decide ((b_1 : Int) = 0)) (Q .ret [.int .i64 6] w) (cnd (decide ((a_0 : Int) < (-1000000))) (Q .ret [.int .i64 1] w) (cnd (decide ((1000000 : Int) < (a_0))) (Q .ret [.int .i64 1] w) (cnd (decide ((b_1 : Int) < (-1000000))) (Q .ret [.int .i64 1] w) (cnd (decide ((1000000 : Int) < (b_1))) (Q .ret [.int .i64 1] w) (Q .ret [.int .i64 0] w))))))
theorem T29_0 (a_0 : Int) (b_1 : Int) (w : World) (Q : Post) : S0 F29 2 [.int .i64 a_0, .int .i64 b_1] w Q = P29_0 a_0 b_1 w Q := by kernel_rfl
theorem U29 {a_0 : Int} {b_1 : Int} {w : World} {R : Value → World → Prop} (h : P29_0 a_0 b_1 w (retQ R)) : Fn PR 29 [.int .i64 a_0, .int .i64 b_1] w R := Fn_of (F := F29) (fn := Tryz.f29) hmx Tryz.func29 (by kernel_rfl) (by kernel_rfl) (by kernel_rfl) (by kernel_rfl) (by kernel_rfl) rfl rfl ((T29_0 a_0 b_1 w _).mpr h)
/-! ## dauber/design.symbol -/
noncomputable def code31 : Code := match Tryz.f31.body with | some c => c | none => .skip
noncomputable def F31 : FD := { P := PR, f := 31, code := code31, nt := 83, res := Tryz.f31.results.toList, live := fun  | _ => [], tail := fun  | _ => 0, rnd := false, ng := true }
def P31_0 (a_0 : Int) (b_1 : Int) (place_2 : Int) (w : World) (Q : Post) : Prop :=
  cnd (decide ((place_2 : Int) = (-1))) (cnd (decide ((a_0 : Int) < 0)) (cnd (decide ((b_1 : Int) < 0)) (Q .ret [.int .i64 (-1)] w) (Q .ret [.int .i64 1] w)) (Q .ret [.int .i64 1] w)) (Fn PR 48 [.int .i64 a_0, .int .i64 place_2] w fun v1 w2 => ∃ x3, ∃ x4, v1 = .tuple #[.int .i64 x3, .int .i64 x4] ∧ Fn PR 48 [.int .i64 b_1, .int .i64 place_2] w2 fun v5 w6 => ∃ x7, ∃ x8, v5 = .tuple #[.int .i64 x7, .int .i64 x8] ∧ cnd (decide ((place_2 : Int) = 2)) (∃ r9, IntKind.i64.wrap ((x4) - 1) = r9 ∧ (2 : Int) ≠ 0 ∧ ∃ r10, IntKind.i64.wrap ((r9 : Int).tdiv 2) = r10 ∧ ∃ r11, IntKind.i64.wrap ((x8) - 1) = r11 ∧ (2 : Int) ≠ 0 ∧ ∃ r12, IntKind.i64.wrap ((r11 : Int).tdiv 2) = r12 ∧ ∃ r13, IntKind.i64.wrap ((r10) * (r12)) = r13 ∧ ∃ r14, IntKind.i64.wrap ((x8) * (x8)) = r14 ∧ ∃ r15, IntKind.i64.wrap ((r14) - 1) = r15 ∧ (8 : Int) ≠ 0 ∧ ∃ r16, IntKind.i64.wrap ((r15 : Int).tdiv 8) = r16 ∧ ∃ r17, IntKind.i64.wrap ((x3) * (r16)) = r17 ∧ ∃ r18, IntKind.i64.wrap ((r13) + (r17)) = r18 ∧ ∃ r19, IntKind.i64.wrap ((x4) * (x4)) = r19 ∧ ∃ r20, IntKind.i64.wrap ((r19) - 1) = r20 ∧ (8 : Int) ≠ 0 ∧ ∃ r21, IntKind.i64.wrap ((r20 : Int).tdiv 8) = r21 ∧ ∃ r22, IntKind.i64.wrap ((x7) * (r21)) = r22 ∧ ∃ r23, IntKind.i64.wrap ((r18) + (r22)) = r23 ∧ Fn PR 49 [.int .i64 r23] w6 fun v24 w25 => ∃ x26, v24 = .int .i64 x26 ∧ Q .ret [.int .i64 x26] w25) (∃ r27, IntKind.i64.wrap ((x3) * (x7)) = r27 ∧ ∃ r28, IntKind.i64.wrap ((place_2) - 1) = r28 ∧ (2 : Int) ≠ 0 ∧ ∃ r29, IntKind.i64.wrap ((r28 : Int).tdiv 2) = r29 ∧ ∃ r30, IntKind.i64.wrap ((r27) * (r29)) = r30 ∧ Fn PR 49 [.int .i64 r30] w6 fun v31 w32 => ∃ x33, v31 = .int .i64 x33 ∧ (2 : Int) ≠ 0 ∧ ∃ r34, (x7 : Int).tmod 2 = r34 ∧ cnd (decide ((r34 : Int) = 1)) (Fn PR 50 [.int .i64 x4, .int .i64 place_2] w32 fun v35 w36 => ∃ x37, v35 = .int .i64 x37 ∧ ∃ r38, IntKind.i64.wrap ((x33) * (x37)) = r38 ∧ (2 : Int) ≠ 0 ∧ ∃ r39, (x3 : Int).tmod 2 = r39 ∧ cnd (decide ((r39 : Int) = 1)) (Fn PR 50 [.int .i64 x8, .int .i64 place_2] w36 fun v40 w41 => ∃ x42, v40 = .int .i64 x42 ∧ ∃ r43, IntKind.i64.wrap ((r38) * (x42)) = r43 ∧ Q .ret [.int .i64 r43] w41) (Q .ret [.int .i64 r38] w36)) ((2 : Int) ≠ 0 ∧ ∃ r44, (x3 : Int).tmod 2 = r44 ∧ cnd (decide ((r44 : Int) = 1)) (Fn PR 50 [.int .i64 x8, .int .i64 place_2] w32 fun v45 w46 => ∃ x47, v45 = .int .i64 x47 ∧ ∃ r48, IntKind.i64.wrap ((x33) * (x47)) = r48 ∧ Q .ret [.int .i64 r48] w46) (Q .ret [.int .i64 x33] w32))))
theorem T31_0 (a_0 : Int) (b_1 : Int) (place_2 : Int) (w : World) (Q : Post) : S0 F31 3 [.int .i64 a_0, .int .i64 b_1, .int .i64 place_2] w Q = P31_0 a_0 b_1 place_2 w Q := by kernel_rfl
theorem U31 {a_0 : Int} {b_1 : Int} {place_2 : Int} {w : World} {R : Value → World → Prop} (h : P31_0 a_0 b_1 place_2 w (retQ R)) : Fn PR 31 [.int .i64 a_0, .int .i64 b_1, .int .i64 place_2] w R := Fn_of (F := F31) (fn := Tryz.f31) hmx Tryz.func31 (by kernel_rfl) (by kernel_rfl) (by kernel_rfl) (by kernel_rfl) (by kernel_rfl) rfl rfl ((T31_0 a_0 b_1 place_2 w _).mpr h)
/-! ## dauber/dauberref06.Prime -/
noncomputable def code33 : Code := match Tryz.f33.body with | some c => c | none => .skip
noncomputable def F33 : FD := { P := PR, f := 33, code := code33, nt := 17, res := Tryz.f33.results.toList, live := fun | 0 => [0, 3] | _ => [], tail := fun  | _ => 0, rnd := false, ng := true }
def P33_0 (n_0 : Int) (w : World) (Q : Post) : Prop :=
  J F33 (hd F33 0) 0 [.int .i64 n_0, .int .i64 2] w Q
theorem T33_0 (n_0 : Int) (w : World) (Q : Post) : S0 F33 1 [.int .i64 n_0] w Q = P33_0 n_0 w Q := by kernel_rfl
theorem U33 {n_0 : Int} {w : World} {R : Value → World → Prop} (h : P33_0 n_0 w (retQ R)) : Fn PR 33 [.int .i64 n_0] w R := Fn_of (F := F33) (fn := Tryz.f33) hmx Tryz.func33 (by kernel_rfl) (by kernel_rfl) (by kernel_rfl) (by kernel_rfl) (by kernel_rfl) rfl rfl ((T33_0 n_0 w _).mpr h)
theorem L33_0 : isLoop 0 (hd F33 0) = true := by kernel_rfl
def P33_L0 (n_0 : Int) (d_3 : Int) (w : World) (Q : Post) : Prop :=
  ∃ r1, IntKind.i64.wrap ((d_3) * (d_3)) = r1 ∧ cnd (decide ((r1 : Int) ≤ (n_0))) ((d_3 : Int) ≠ 0 ∧ ∃ r2, (n_0 : Int).tmod (d_3) = r2 ∧ cnd (decide ((r2 : Int) = 0)) (Q .ret [.bool false] w) (∃ r3, IntKind.i64.wrap ((d_3) + 1) = r3 ∧ Q (.again 0) [.int .i64 n_0, .int .i64 r3] w)) (Q .ret [.bool (decide ((1 : Int) < (n_0)))] w)
theorem T33_L0 (n_0 : Int) (d_3 : Int) (w : World) (Q : Post) : S F33 0 [.int .i64 n_0, .int .i64 d_3] w Q = P33_L0 n_0 d_3 w Q := by kernel_rfl
/-! ## dauber/dauberref06.part -/
noncomputable def code34 : Code := match Tryz.f34.body with | some c => c | none => .skip
noncomputable def F34 : FD := { P := PR, f := 34, code := code34, nt := 18, res := Tryz.f34.results.toList, live := fun | 0 => [0, 1, 6] | _ => [], tail := fun  | _ => 0, rnd := false, ng := true }
def P34_0 (n_0 : Int) (p_1 : Int) (w : World) (Q : Post) : Prop :=
  J F34 (hd F34 0) 0 [.int .i64 n_0, .int .i64 p_1, .int .i64 0] w Q
theorem T34_0 (n_0 : Int) (p_1 : Int) (w : World) (Q : Post) : S0 F34 2 [.int .i64 n_0, .int .i64 p_1] w Q = P34_0 n_0 p_1 w Q := by kernel_rfl
theorem U34 {n_0 : Int} {p_1 : Int} {w : World} {R : Value → World → Prop} (h : P34_0 n_0 p_1 w (retQ R)) : Fn PR 34 [.int .i64 n_0, .int .i64 p_1] w R := Fn_of (F := F34) (fn := Tryz.f34) hmx Tryz.func34 (by kernel_rfl) (by kernel_rfl) (by kernel_rfl) (by kernel_rfl) (by kernel_rfl) rfl rfl ((T34_0 n_0 p_1 w _).mpr h)
theorem L34_0 : isLoop 0 (hd F34 0) = true := by kernel_rfl
def P34_L0 (n_0 : Int) (p_1 : Int) (e_6 : Int) (w : World) (Q : Post) : Prop :=
  (p_1 : Int) ≠ 0 ∧ ∃ r1, (n_0 : Int).tmod (p_1) = r1 ∧ cnd (decide ((r1 : Int) = 0)) ((p_1 : Int) ≠ 0 ∧ ∃ r2, IntKind.i64.wrap ((n_0 : Int).tdiv (p_1)) = r2 ∧ ∃ r3, IntKind.i64.wrap ((e_6) + 1) = r3 ∧ Q (.again 0) [.int .i64 r2, .int .i64 p_1, .int .i64 r3] w) (Q .ret [.tuple #[.int .i64 e_6, .int .i64 n_0]] w)
theorem T34_L0 (n_0 : Int) (p_1 : Int) (e_6 : Int) (w : World) (Q : Post) : S F34 0 [.int .i64 n_0, .int .i64 p_1, .int .i64 e_6] w Q = P34_L0 n_0 p_1 e_6 w Q := by kernel_rfl
/-! ## dauber/dauberref06.even -/
noncomputable def code35 : Code := match Tryz.f35.body with | some c => c | none => .skip
noncomputable def F35 : FD := { P := PR, f := 35, code := code35, nt := 6, res := Tryz.f35.results.toList, live := fun  | _ => [], tail := fun  | _ => 0, rnd := false, ng := true }
def P35_0 (n_0 : Int) (w : World) (Q : Post) : Prop :=
  (2 : Int) ≠ 0 ∧ ∃ r1, (n_0 : Int).tmod 2 = r1 ∧ Q .ret [.bool (decide ((r1 : Int) = 0))] w
theorem T35_0 (n_0 : Int) (w : World) (Q : Post) : S0 F35 1 [.int .i64 n_0] w Q = P35_0 n_0 w Q := by kernel_rfl
theorem U35 {n_0 : Int} {w : World} {R : Value → World → Prop} (h : P35_0 n_0 w (retQ R)) : Fn PR 35 [.int .i64 n_0] w R := Fn_of (F := F35) (fn := Tryz.f35) hmx Tryz.func35 (by kernel_rfl) (by kernel_rfl) (by kernel_rfl) (by kernel_rfl) (by kernel_rfl) rfl rfl ((T35_0 n_0 w _).mpr h)
/-! ## dauber/dauberref06.legendre -/
noncomputable def code36 : Code := match Tryz.f36.body with | some c => c | none => .skip
noncomputable def F36 : FD := { P := PR, f := 36, code := code36, nt := 36, res := Tryz.f36.results.toList, live := fun | 0 => [0, 1, 5, 6] | _ => [], tail := fun  | _ => 0, rnd := false, ng := true }
def P36_0 (u_0 : Int) (p_1 : Int) (w : World) (Q : Post) : Prop :=
  (p_1 : Int) ≠ 0 ∧ ∃ r1, (u_0 : Int).tmod (p_1) = r1 ∧ ∃ r2, IntKind.i64.wrap ((r1) + (p_1)) = r2 ∧ (p_1 : Int) ≠ 0 ∧ ∃ r3, (r2 : Int).tmod (p_1) = r3 ∧ ∃ r4, IntKind.i64.wrap ((p_1) - 1) = r4 ∧ (2 : Int) ≠ 0 ∧ ∃ r5, IntKind.i64.wrap ((r4 : Int).tdiv 2) = r5 ∧ J F36 (hd F36 0) 0 [.int .i64 r3, .int .i64 p_1, .int .i64 1, .int .i64 r5] w Q
theorem T36_0 (u_0 : Int) (p_1 : Int) (w : World) (Q : Post) : S0 F36 2 [.int .i64 u_0, .int .i64 p_1] w Q = P36_0 u_0 p_1 w Q := by kernel_rfl
theorem U36 {u_0 : Int} {p_1 : Int} {w : World} {R : Value → World → Prop} (h : P36_0 u_0 p_1 w (retQ R)) : Fn PR 36 [.int .i64 u_0, .int .i64 p_1] w R := Fn_of (F := F36) (fn := Tryz.f36) hmx Tryz.func36 (by kernel_rfl) (by kernel_rfl) (by kernel_rfl) (by kernel_rfl) (by kernel_rfl) rfl rfl ((T36_0 u_0 p_1 w _).mpr h)
theorem L36_0 : isLoop 0 (hd F36 0) = true := by kernel_rfl
def P36_L0 (u_0 : Int) (p_1 : Int) (out_5 : Int) (n_6 : Int) (w : World) (Q : Post) : Prop :=
  cnd (decide ((0 : Int) < (n_6))) ((2 : Int) ≠ 0 ∧ ∃ r6, (n_6 : Int).tmod 2 = r6 ∧ cnd (decide ((r6 : Int) = 1)) (∃ r7, IntKind.i64.wrap ((out_5) * (u_0)) = r7 ∧ (p_1 : Int) ≠ 0 ∧ ∃ r8, (r7 : Int).tmod (p_1) = r8 ∧ ∃ r9, IntKind.i64.wrap ((u_0) * (u_0)) = r9 ∧ (p_1 : Int) ≠ 0 ∧ ∃ r10, (r9 : Int).tmod (p_1) = r10 ∧ (2 : Int) ≠ 0 ∧ ∃ r11, IntKind.i64.wrap ((n_6 : Int).tdiv 2) = r11 ∧ Q (.again 0) [.int .i64 r10, .int .i64 p_1, .int .i64 r8, .int .i64 r11] w) (∃ r12, IntKind.i64.wrap ((u_0) * (u_0)) = r12 ∧ (p_1 : Int) ≠ 0 ∧ ∃ r13, (r12 : Int).tmod (p_1) = r13 ∧ (2 : Int) ≠ 0 ∧ ∃ r14, IntKind.i64.wrap ((n_6 : Int).tdiv 2) = r14 ∧ Q (.again 0) [.int .i64 r13, .int .i64 p_1, .int .i64 out_5, .int .i64 r14] w)) (cnd (decide ((out_5 : Int) = 1)) (Q .ret [.int .i64 1] w) (Q .ret [.int .i64 (-1)] w))
theorem T36_L0 (u_0 : Int) (p_1 : Int) (out_5 : Int) (n_6 : Int) (w : World) (Q : Post) : S F36 0 [.int .i64 u_0, .int .i64 p_1, .int .i64 out_5, .int .i64 n_6] w Q = P36_L0 u_0 p_1 out_5 n_6 w Q := by kernel_rfl
/-! ## dauber/dauberref06.Has -/
noncomputable def code42 : Code := match Tryz.f42.body with | some c => c | none => .skip
noncomputable def F42 : FD := { P := PR, f := 42, code := code42, nt := 18, res := Tryz.f42.results.toList, live := fun | 0 => [0, 1, 5] | _ => [], tail := fun  | _ => 0, rnd := false, ng := true }
def P42_0 (l_0a : Option Addr) (l_0n : Nat) (l_0c : Nat) (n_1 : Int) (w : World) (Q : Post) : Prop :=
  J F42 (hd F42 0) 0 [.slice l_0a l_0n l_0c, .int .i64 n_1, .int .i64 0] w Q
theorem T42_0 (l_0a : Option Addr) (l_0n : Nat) (l_0c : Nat) (n_1 : Int) (w : World) (Q : Post) : S0 F42 2 [.slice l_0a l_0n l_0c, .int .i64 n_1] w Q = P42_0 l_0a l_0n l_0c n_1 w Q := by kernel_rfl
theorem U42 {l_0a : Option Addr} {l_0n : Nat} {l_0c : Nat} {n_1 : Int} {w : World} {R : Value → World → Prop} (h : P42_0 l_0a l_0n l_0c n_1 w (retQ R)) : Fn PR 42 [.slice l_0a l_0n l_0c, .int .i64 n_1] w R := Fn_of (F := F42) (fn := Tryz.f42) hmx Tryz.func42 (by kernel_rfl) (by kernel_rfl) (by kernel_rfl) (by kernel_rfl) (by kernel_rfl) rfl rfl ((T42_0 l_0a l_0n l_0c n_1 w _).mpr h)
theorem L42_0 : isLoop 0 (hd F42 0) = true := by kernel_rfl
def P42_L0 (l_0a : Option Addr) (l_0n : Nat) (l_0c : Nat) (n_1 : Int) (i_5 : Int) (w : World) (Q : Post) : Prop :=
  cnd (decide ((i_5 : Int) < (((l_0n : Nat) : Int)))) (0 ≤ (i_5 : Int) ∧ (i_5 : Int) < (l_0n : Nat) ∧ ∃ p1, l_0a = some p1 ∧ ∃ x2, w.cell? (p1.add ((i_5 : Int).toNat * 1)) = some (.int .i64 x2) ∧ cnd (decide ((x2 : Int) = (n_1))) (Q .ret [.bool true] w) (∃ r3, IntKind.i64.wrap ((i_5) + 1) = r3 ∧ Q (.again 0) [.slice l_0a l_0n l_0c, .int .i64 n_1, .int .i64 r3] w)) (Q .ret [.bool false] w)
theorem T42_L0 (l_0a : Option Addr) (l_0n : Nat) (l_0c : Nat) (n_1 : Int) (i_5 : Int) (w : World) (Q : Post) : S F42 0 [.slice l_0a l_0n l_0c, .int .i64 n_1, .int .i64 i_5] w Q = P42_L0 l_0a l_0n l_0c n_1 i_5 w Q := by kernel_rfl
/-! ## dauber/design.rising -/
noncomputable def code43 : Code := match Tryz.f43.body with | some c => c | none => .skip
noncomputable def F43 : FD := { P := PR, f := 43, code := code43, nt := 24, res := Tryz.f43.results.toList, live := fun | 0 => [1, 5, 8, 9, 10] | _ => [], tail := fun  | _ => 0, rnd := false, ng := true }
def P43_0 (l_0a : Option Addr) (l_0n : Nat) (l_0c : Nat) (n_1 : Int) (w : World) (Q : Post) : Prop :=
  J F43 (hd F43 0) 0 [.int .i64 n_1, .int .i64 (-1), .slice l_0a l_0n l_0c, .int .i64 ((l_0n : Nat) : Int), .int .i64 0] w Q
theorem T43_0 (l_0a : Option Addr) (l_0n : Nat) (l_0c : Nat) (n_1 : Int) (w : World) (Q : Post) : S0 F43 2 [.slice l_0a l_0n l_0c, .int .i64 n_1] w Q = P43_0 l_0a l_0n l_0c n_1 w Q := by kernel_rfl
theorem U43 {l_0a : Option Addr} {l_0n : Nat} {l_0c : Nat} {n_1 : Int} {w : World} {R : Value → World → Prop} (h : P43_0 l_0a l_0n l_0c n_1 w (retQ R)) : Fn PR 43 [.slice l_0a l_0n l_0c, .int .i64 n_1] w R := Fn_of (F := F43) (fn := Tryz.f43) hmx Tryz.func43 (by kernel_rfl) (by kernel_rfl) (by kernel_rfl) (by kernel_rfl) (by kernel_rfl) rfl rfl ((T43_0 l_0a l_0n l_0c n_1 w _).mpr h)
theorem L43_0 : isLoop 0 (hd F43 0) = true := by kernel_rfl
def P43_L0 (n_1 : Int) (last_5 : Int) (t_8a : Option Addr) (t_8n : Nat) (t_8c : Nat) (t_9 : Int) (t_10 : Int) (w : World) (Q : Post) : Prop :=
  cnd (decide ((t_10 : Int) < (t_9))) (0 ≤ (t_10 : Int) ∧ (t_10 : Int) < (t_8n : Nat) ∧ ∃ p1, t_8a = some p1 ∧ ∃ x2, w.cell? (p1.add ((t_10 : Int).toNat * 1)) = some (.int .i64 x2) ∧ cnd (decide ((x2 : Int) ≤ (last_5))) (Q .ret [.bool false] w) (cnd (decide ((n_1 : Int) ≤ (x2))) (Q .ret [.bool false] w) (∃ r3, IntKind.i64.wrap ((t_10) + 1) = r3 ∧ Q (.again 0) [.int .i64 n_1, .int .i64 x2, .slice t_8a t_8n t_8c, .int .i64 t_9, .int .i64 r3] w))) (Q .ret [.bool true] w)
theorem T43_L0 (n_1 : Int) (last_5 : Int) (t_8a : Option Addr) (t_8n : Nat) (t_8c : Nat) (t_9 : Int) (t_10 : Int) (w : World) (Q : Post) : S F43 0 [.int .i64 n_1, .int .i64 last_5, .slice t_8a t_8n t_8c, .int .i64 t_9, .int .i64 t_10] w Q = P43_L0 n_1 last_5 t_8a t_8n t_8c t_9 t_10 w Q := by kernel_rfl
/-! ## dauber/dauberref06.rising -/
noncomputable def code44 : Code := match Tryz.f44.body with | some c => c | none => .skip
noncomputable def F44 : FD := { P := PR, f := 44, code := code44, nt := 41, res := Tryz.f44.results.toList, live := fun | 0 => [0, 1, 5] | _ => [], tail := fun | 4 => 26 | _ => 0, rnd := false, ng := true }
def P44_0 (v_0 : Int) (l_1a : Option Addr) (l_1n : Nat) (l_1c : Nat) (w : World) (Q : Post) : Prop :=
  J F44 (hd F44 0) 0 [.int .i64 v_0, .slice l_1a l_1n l_1c, .int .i64 0] w Q
theorem T44_0 (v_0 : Int) (l_1a : Option Addr) (l_1n : Nat) (l_1c : Nat) (w : World) (Q : Post) : S0 F44 2 [.int .i64 v_0, .slice l_1a l_1n l_1c] w Q = P44_0 v_0 l_1a l_1n l_1c w Q := by kernel_rfl
theorem U44 {v_0 : Int} {l_1a : Option Addr} {l_1n : Nat} {l_1c : Nat} {w : World} {R : Value → World → Prop} (h : P44_0 v_0 l_1a l_1n l_1c w (retQ R)) : Fn PR 44 [.int .i64 v_0, .slice l_1a l_1n l_1c] w R := Fn_of (F := F44) (fn := Tryz.f44) hmx Tryz.func44 (by kernel_rfl) (by kernel_rfl) (by kernel_rfl) (by kernel_rfl) (by kernel_rfl) rfl rfl ((T44_0 v_0 l_1a l_1n l_1c w _).mpr h)
theorem L44_0 : isLoop 0 (hd F44 0) = true := by kernel_rfl
def P44_L0 (v_0 : Int) (l_1a : Option Addr) (l_1n : Nat) (l_1c : Nat) (i_5 : Int) (w : World) (Q : Post) : Prop :=
  cnd (decide ((i_5 : Int) < (((l_1n : Nat) : Int)))) (∀ w1, w1 = w.drew → 0 ≤ (i_5 : Int) ∧ (i_5 : Int) < (l_1n : Nat) ∧ ∃ p2, l_1a = some p2 ∧ ∃ x3, w1.cell? (p2.add ((i_5 : Int).toNat * 1)) = some (.int .i64 x3) ∧ cnd (decide ((x3 : Int) < 0)) (Q .ret [.bool false] w1) (0 ≤ (i_5 : Int) ∧ (i_5 : Int) < (l_1n : Nat) ∧ ∃ p4, l_1a = some p4 ∧ ∃ x5, w1.cell? (p4.add ((i_5 : Int).toNat * 1)) = some (.int .i64 x5) ∧ cnd (decide ((v_0 : Int) ≤ (x5))) (Q .ret [.bool false] w1) (cnd (decide ((0 : Int) < (i_5))) (∃ r6, IntKind.i64.wrap ((i_5) - 1) = r6 ∧ 0 ≤ (r6 : Int) ∧ (r6 : Int) < (l_1n : Nat) ∧ ∃ p7, l_1a = some p7 ∧ ∃ x8, w1.cell? (p7.add ((r6 : Int).toNat * 1)) = some (.int .i64 x8) ∧ 0 ≤ (i_5 : Int) ∧ (i_5 : Int) < (l_1n : Nat) ∧ ∃ p9, l_1a = some p9 ∧ ∃ x10, w1.cell? (p9.add ((i_5 : Int).toNat * 1)) = some (.int .i64 x10) ∧ cnd (decide ((x10 : Int) ≤ (x8))) (Q .ret [.bool false] w1) (∃ r11, IntKind.i64.wrap ((i_5) + 1) = r11 ∧ Q (.again 0) [.int .i64 v_0, .slice l_1a l_1n l_1c, .int .i64 r11] w1)) (∃ r12, IntKind.i64.wrap ((i_5) + 1) = r12 ∧ Q (.again 0) [.int .i64 v_0, .slice l_1a l_1n l_1c, .int .i64 r12] w1)))) (Q .ret [.bool true] w)
theorem T44_L0 (v_0 : Int) (l_1a : Option Addr) (l_1n : Nat) (l_1c : Nat) (i_5 : Int) (w : World) (Q : Post) : S F44 0 [.int .i64 v_0, .slice l_1a l_1n l_1c, .int .i64 i_5] w Q = P44_L0 v_0 l_1a l_1n l_1c i_5 w Q := by kernel_rfl
/-! ## slices.Contains[[]int,int] -/
noncomputable def code45 : Code := match Tryz.f45.body with | some c => c | none => .skip
noncomputable def F45 : FD := { P := PR, f := 45, code := code45, nt := 9, res := Tryz.f45.results.toList, live := fun  | _ => [], tail := fun  | _ => 0, rnd := false, ng := true }
def P45_0 (s_0a : Option Addr) (s_0n : Nat) (s_0c : Nat) (v_1 : Int) (w : World) (Q : Post) : Prop :=
  Fn PR 62 [.slice s_0a s_0n s_0c, .int .i64 v_1] w fun v1 w2 => ∃ x3, v1 = .int .i64 x3 ∧ Q .ret [.bool (decide ((0 : Int) ≤ (x3)))] w2
theorem T45_0 (s_0a : Option Addr) (s_0n : Nat) (s_0c : Nat) (v_1 : Int) (w : World) (Q : Post) : S0 F45 2 [.slice s_0a s_0n s_0c, .int .i64 v_1] w Q = P45_0 s_0a s_0n s_0c v_1 w Q := by kernel_rfl
theorem U45 {s_0a : Option Addr} {s_0n : Nat} {s_0c : Nat} {v_1 : Int} {w : World} {R : Value → World → Prop} (h : P45_0 s_0a s_0n s_0c v_1 w (retQ R)) : Fn PR 45 [.slice s_0a s_0n s_0c, .int .i64 v_1] w R := Fn_of (F := F45) (fn := Tryz.f45) hmx Tryz.func45 (by kernel_rfl) (by kernel_rfl) (by kernel_rfl) (by kernel_rfl) (by kernel_rfl) rfl rfl ((T45_0 s_0a s_0n s_0c v_1 w _).mpr h)
/-! ## dauber/design.factors -/
noncomputable def code47 : Code := match Tryz.f47.body with | some c => c | none => .skip
noncomputable def F47 : FD := { P := PR, f := 47, code := code47, nt := 4, res := Tryz.f47.results.toList, live := fun  | _ => [], tail := fun  | _ => 0, rnd := false, ng := true }
def P47_0 (n_0 : Int) (w : World) (Q : Post) : Prop :=
  newC w (.cells #[.int .i64 n_0] 2) fun b1 w2 => Q .ret [.func (.func 65) #[] #[.pointer (some (bl b1))]] w2
theorem T47_0 (n_0 : Int) (w : World) (Q : Post) : S0 F47 1 [.int .i64 n_0] w Q = P47_0 n_0 w Q := by kernel_rfl
theorem U47 {n_0 : Int} {w : World} {R : Value → World → Prop} (h : P47_0 n_0 w (retQ R)) : Fn PR 47 [.int .i64 n_0] w R := Fn_of (F := F47) (fn := Tryz.f47) hmx Tryz.func47 (by kernel_rfl) (by kernel_rfl) (by kernel_rfl) (by kernel_rfl) (by kernel_rfl) rfl rfl ((T47_0 n_0 w _).mpr h)
/-! ## dauber/design.split -/
noncomputable def code48 : Code := match Tryz.f48.body with | some c => c | none => .skip
noncomputable def F48 : FD := { P := PR, f := 48, code := code48, nt := 17, res := Tryz.f48.results.toList, live := fun | 0 => [0, 1, 4] | _ => [], tail := fun  | _ => 0, rnd := false, ng := true }
def P48_0 (n_0 : Int) (p_1 : Int) (w : World) (Q : Post) : Prop :=
  J F48 (hd F48 0) 0 [.int .i64 n_0, .int .i64 p_1, .int .i64 0] w Q
theorem T48_0 (n_0 : Int) (p_1 : Int) (w : World) (Q : Post) : S0 F48 2 [.int .i64 n_0, .int .i64 p_1] w Q = P48_0 n_0 p_1 w Q := by kernel_rfl
theorem U48 {n_0 : Int} {p_1 : Int} {w : World} {R : Value → World → Prop} (h : P48_0 n_0 p_1 w (retQ R)) : Fn PR 48 [.int .i64 n_0, .int .i64 p_1] w R := Fn_of (F := F48) (fn := Tryz.f48) hmx Tryz.func48 (by kernel_rfl) (by kernel_rfl) (by kernel_rfl) (by kernel_rfl) (by kernel_rfl) rfl rfl ((T48_0 n_0 p_1 w _).mpr h)
theorem L48_0 : isLoop 0 (hd F48 0) = true := by kernel_rfl
def P48_L0 (n_0 : Int) (p_1 : Int) (exp_4 : Int) (w : World) (Q : Post) : Prop :=
  (p_1 : Int) ≠ 0 ∧ ∃ r1, (n_0 : Int).tmod (p_1) = r1 ∧ cnd (decide ((r1 : Int) = 0)) ((p_1 : Int) ≠ 0 ∧ ∃ r2, IntKind.i64.wrap ((n_0 : Int).tdiv (p_1)) = r2 ∧ ∃ r3, IntKind.i64.wrap ((exp_4) + 1) = r3 ∧ Q (.again 0) [.int .i64 r2, .int .i64 p_1, .int .i64 r3] w) (Q .ret [.tuple #[.int .i64 exp_4, .int .i64 n_0]] w)
theorem T48_L0 (n_0 : Int) (p_1 : Int) (exp_4 : Int) (w : World) (Q : Post) : S F48 0 [.int .i64 n_0, .int .i64 p_1, .int .i64 exp_4] w Q = P48_L0 n_0 p_1 exp_4 w Q := by kernel_rfl
/-! ## dauber/design.sign -/
noncomputable def code49 : Code := match Tryz.f49.body with | some c => c | none => .skip
noncomputable def F49 : FD := { P := PR, f := 49, code := code49, nt := 6, res := Tryz.f49.results.toList, live := fun  | _ => [], tail := fun  | _ => 0, rnd := false, ng := true }
def P49_0 (n_0 : Int) (w : World) (Q : Post) : Prop :=
  (2 : Int) ≠ 0 ∧ ∃ r1, (n_0 : Int).tmod 2 = r1 ∧ cnd (decide ((r1 : Int) = 0)) (Q .ret [.int .i64 1] w) (Q .ret [.int .i64 (-1)] w)
theorem T49_0 (n_0 : Int) (w : World) (Q : Post) : S0 F49 1 [.int .i64 n_0] w Q = P49_0 n_0 w Q := by kernel_rfl
theorem U49 {n_0 : Int} {w : World} {R : Value → World → Prop} (h : P49_0 n_0 w (retQ R)) : Fn PR 49 [.int .i64 n_0] w R := Fn_of (F := F49) (fn := Tryz.f49) hmx Tryz.func49 (by kernel_rfl) (by kernel_rfl) (by kernel_rfl) (by kernel_rfl) (by kernel_rfl) rfl rfl ((T49_0 n_0 w _).mpr h)
/-! ## dauber/design.character -/
noncomputable def code50 : Code := match Tryz.f50.body with | some c => c | none => .skip
noncomputable def F50 : FD := { P := PR, f := 50, code := code50, nt := 37, res := Tryz.f50.results.toList, live := fun | 0 => [1, 5, 6, 7] | _ => [], tail := fun | 1 => 8 | _ => 0, rnd := false, ng := true }
def P50_0 (n_0 : Int) (p_1 : Int) (w : World) (Q : Post) : Prop :=
  ∀ w1, w1 = w.drew → (p_1 : Int) ≠ 0 ∧ ∃ r2, (n_0 : Int).tmod (p_1) = r2 ∧ ∃ r3, IntKind.i64.wrap ((r2) + (p_1)) = r3 ∧ (p_1 : Int) ≠ 0 ∧ ∃ r4, (r3 : Int).tmod (p_1) = r4 ∧ ∃ r5, IntKind.i64.wrap ((p_1) - 1) = r5 ∧ (2 : Int) ≠ 0 ∧ ∃ r6, IntKind.i64.wrap ((r5 : Int).tdiv 2) = r6 ∧ J F50 (hd F50 0) 0 [.int .i64 p_1, .int .i64 1, .int .i64 r4, .int .i64 r6] w1 Q
theorem T50_0 (n_0 : Int) (p_1 : Int) (w : World) (Q : Post) : S0 F50 2 [.int .i64 n_0, .int .i64 p_1] w Q = P50_0 n_0 p_1 w Q := by kernel_rfl
theorem U50 {n_0 : Int} {p_1 : Int} {w : World} {R : Value → World → Prop} (h : P50_0 n_0 p_1 w (retQ R)) : Fn PR 50 [.int .i64 n_0, .int .i64 p_1] w R := Fn_of (F := F50) (fn := Tryz.f50) hmx Tryz.func50 (by kernel_rfl) (by kernel_rfl) (by kernel_rfl) (by kernel_rfl) (by kernel_rfl) rfl rfl ((T50_0 n_0 p_1 w _).mpr h)
theorem L50_0 : isLoop 0 (hd F50 0) = true := by kernel_rfl
def P50_L0 (p_1 : Int) (out_5 : Int) (x_6 : Int) (k_7 : Int) (w : World) (Q : Post) : Prop :=
  cnd (decide ((0 : Int) < (k_7))) ((2 : Int) ≠ 0 ∧ ∃ r7, (k_7 : Int).tmod 2 = r7 ∧ cnd (decide ((r7 : Int) = 1)) (∃ r8, IntKind.i64.wrap ((out_5) * (x_6)) = r8 ∧ (p_1 : Int) ≠ 0 ∧ ∃ r9, (r8 : Int).tmod (p_1) = r9 ∧ ∃ r10, IntKind.i64.wrap ((x_6) * (x_6)) = r10 ∧ (p_1 : Int) ≠ 0 ∧ ∃ r11, (r10 : Int).tmod (p_1) = r11 ∧ (2 : Int) ≠ 0 ∧ ∃ r12, IntKind.i64.wrap ((k_7 : Int).tdiv 2) = r12 ∧ Q (.again 0) [.int .i64 p_1, .int .i64 r9, .int .i64 r11, .int .i64 r12] w) (∃ r13, IntKind.i64.wrap ((x_6) * (x_6)) = r13 ∧ (p_1 : Int) ≠ 0 ∧ ∃ r14, (r13 : Int).tmod (p_1) = r14 ∧ (2 : Int) ≠ 0 ∧ ∃ r15, IntKind.i64.wrap ((k_7 : Int).tdiv 2) = r15 ∧ Q (.again 0) [.int .i64 p_1, .int .i64 out_5, .int .i64 r14, .int .i64 r15] w)) (cnd (decide ((out_5 : Int) = 1)) (Q .ret [.int .i64 1] w) (Q .ret [.int .i64 (-1)] w))
theorem T50_L0 (p_1 : Int) (out_5 : Int) (x_6 : Int) (k_7 : Int) (w : World) (Q : Post) : S F50 0 [.int .i64 p_1, .int .i64 out_5, .int .i64 x_6, .int .i64 k_7] w Q = P50_L0 p_1 out_5 x_6 k_7 w Q := by kernel_rfl
/-! ## dauber/design.refused -/
noncomputable def code55 : Code := match Tryz.f55.body with | some c => c | none => .skip
noncomputable def F55 : FD := { P := PR, f := 55, code := code55, nt := 23, res := Tryz.f55.results.toList, live := fun | 0 => [0, 1, 10, 11, 12] | _ => [], tail := fun  | _ => 0, rnd := false, ng := true }
def P55_0 (a_0 : Int) (b_1 : Int) (w : World) (Q : Post) : Prop :=
  Fn PR 32 [.int .i64 a_0, .int .i64 b_1] w fun v1 w2 => ∃ x3a, ∃ x3n, ∃ x3c, v1 = .slice x3a x3n x3c ∧ J F55 (hd F55 0) 0 [.int .i64 a_0, .int .i64 b_1, .slice x3a x3n x3c, .int .i64 ((x3n : Nat) : Int), .int .i64 0] w2 Q
theorem T55_0 (a_0 : Int) (b_1 : Int) (w : World) (Q : Post) : S0 F55 2 [.int .i64 a_0, .int .i64 b_1] w Q = P55_0 a_0 b_1 w Q := by kernel_rfl
theorem U55 {a_0 : Int} {b_1 : Int} {w : World} {R : Value → World → Prop} (h : P55_0 a_0 b_1 w (retQ R)) : Fn PR 55 [.int .i64 a_0, .int .i64 b_1] w R := Fn_of (F := F55) (fn := Tryz.f55) hmx Tryz.func55 (by kernel_rfl) (by kernel_rfl) (by kernel_rfl) (by kernel_rfl) (by kernel_rfl) rfl rfl ((T55_0 a_0 b_1 w _).mpr h)
theorem L55_0 : isLoop 0 (hd F55 0) = true := by kernel_rfl
def P55_L0 (a_0 : Int) (b_1 : Int) (t_10a : Option Addr) (t_10n : Nat) (t_10c : Nat) (t_11 : Int) (t_12 : Int) (w : World) (Q : Post) : Prop :=
  cnd (decide ((t_12 : Int) < (t_11))) (0 ≤ (t_12 : Int) ∧ (t_12 : Int) < (t_10n : Nat) ∧ ∃ p4, t_10a = some p4 ∧ ∃ x5, w.cell? (p4.add ((t_12 : Int).toNat * 1)) = some (.int .i64 x5) ∧ Fn PR 31 [.int .i64 a_0, .int .i64 b_1, .int .i64 x5] w fun v6 w7 => ∃ x8, v6 = .int .i64 x8 ∧ cnd (decide ((x8 : Int) < 0)) (Q .ret [.tuple #[.int .i64 x5, .bool true]] w7) (∃ r9, IntKind.i64.wrap ((t_12) + 1) = r9 ∧ Q (.again 0) [.int .i64 a_0, .int .i64 b_1, .slice t_10a t_10n t_10c, .int .i64 t_11, .int .i64 r9] w7)) (Q .ret [.tuple #[.int .i64 0, .bool false]] w)
theorem T55_L0 (a_0 : Int) (b_1 : Int) (t_10a : Option Addr) (t_10n : Nat) (t_10c : Nat) (t_11 : Int) (t_12 : Int) (w : World) (Q : Post) : S F55 0 [.int .i64 a_0, .int .i64 b_1, .slice t_10a t_10n t_10c, .int .i64 t_11, .int .i64 t_12] w Q = P55_L0 a_0 b_1 t_10a t_10n t_10c t_11 t_12 w Q := by kernel_rfl
/-! ## slices.Index[[]int,int] -/
noncomputable def code62 : Code := match Tryz.f62.body with | some c => c | none => .skip
noncomputable def F62 : FD := { P := PR, f := 62, code := code62, nt := 19, res := Tryz.f62.results.toList, live := fun | 0 => [0, 1, 7, 8] | _ => [], tail := fun  | _ => 0, rnd := false, ng := true }
def P62_0 (s_0a : Option Addr) (s_0n : Nat) (s_0c : Nat) (v_1 : Int) (w : World) (Q : Post) : Prop :=
  J F62 (hd F62 0) 0 [.slice s_0a s_0n s_0c, .int .i64 v_1, .int .i64 ((s_0n : Nat) : Int), .int .i64 0] w Q
theorem T62_0 (s_0a : Option Addr) (s_0n : Nat) (s_0c : Nat) (v_1 : Int) (w : World) (Q : Post) : S0 F62 2 [.slice s_0a s_0n s_0c, .int .i64 v_1] w Q = P62_0 s_0a s_0n s_0c v_1 w Q := by kernel_rfl
theorem U62 {s_0a : Option Addr} {s_0n : Nat} {s_0c : Nat} {v_1 : Int} {w : World} {R : Value → World → Prop} (h : P62_0 s_0a s_0n s_0c v_1 w (retQ R)) : Fn PR 62 [.slice s_0a s_0n s_0c, .int .i64 v_1] w R := Fn_of (F := F62) (fn := Tryz.f62) hmx Tryz.func62 (by kernel_rfl) (by kernel_rfl) (by kernel_rfl) (by kernel_rfl) (by kernel_rfl) rfl rfl ((T62_0 s_0a s_0n s_0c v_1 w _).mpr h)
theorem L62_0 : isLoop 0 (hd F62 0) = true := by kernel_rfl
def P62_L0 (s_0a : Option Addr) (s_0n : Nat) (s_0c : Nat) (v_1 : Int) (t_7 : Int) (t_8 : Int) (w : World) (Q : Post) : Prop :=
  cnd (decide ((t_8 : Int) < (t_7))) (0 ≤ (t_8 : Int) ∧ (t_8 : Int) < (s_0n : Nat) ∧ ∃ p1, s_0a = some p1 ∧ ∃ x2, w.cell? (p1.add ((t_8 : Int).toNat * 1)) = some (.int .i64 x2) ∧ cnd (decide ((v_1 : Int) = (x2))) (Q .ret [.int .i64 t_8] w) (∃ r3, IntKind.i64.wrap ((t_8) + 1) = r3 ∧ Q (.again 0) [.slice s_0a s_0n s_0c, .int .i64 v_1, .int .i64 t_7, .int .i64 r3] w)) (Q .ret [.int .i64 (-1)] w)
theorem T62_L0 (s_0a : Option Addr) (s_0n : Nat) (s_0c : Nat) (v_1 : Int) (t_7 : Int) (t_8 : Int) (w : World) (Q : Post) : S F62 0 [.slice s_0a s_0n s_0c, .int .i64 v_1, .int .i64 t_7, .int .i64 t_8] w Q = P62_L0 s_0a s_0n s_0c v_1 t_7 t_8 w Q := by kernel_rfl
/-! ## dauber/design.factors$1 -/
noncomputable def code65 : Code := match Tryz.f65.body with | some c => c | none => .skip
noncomputable def F65 : FD := { P := PR, f := 65, code := code65, nt := 38, res := Tryz.f65.results.toList, live := fun | 0 => [0, 3, 4] | 2 => [0, 3, 4, 5] | _ => [], tail := fun  | _ => 0, rnd := false, ng := true }
def P65_0 (yield_0 : Nat) (t_1 : Addr) (w : World) (Q : Post) : Prop :=
  ∃ x1, w.cell? t_1 = some (.int .i64 x1) ∧ Fn PR 66 [.int .i64 x1] w fun v2 w3 => ∃ x4, v2 = .int .i64 x4 ∧ J F65 (hd F65 0) 0 [.func (.yield yield_0) #[] #[], .int .i64 x4, .int .i64 2] w3 Q
theorem T65_0 (yield_0 : Nat) (t_1 : Addr) (w : World) (Q : Post) : S0 F65 2 [.func (.yield yield_0) #[] #[], .pointer (some t_1)] w Q = P65_0 yield_0 t_1 w Q := by kernel_rfl
theorem U65 {yield_0 : Nat} {t_1 : Addr} {w : World} {R : Value → World → Prop} (h : P65_0 yield_0 t_1 w (retQ R)) : Fn PR 65 [.func (.yield yield_0) #[] #[], .pointer (some t_1)] w R := Fn_of (F := F65) (fn := Tryz.f65) hmx Tryz.func65 (by kernel_rfl) (by kernel_rfl) (by kernel_rfl) (by kernel_rfl) (by kernel_rfl) rfl rfl ((T65_0 yield_0 t_1 w _).mpr h)
theorem L65_0 : isLoop 0 (hd F65 0) = true := by kernel_rfl
def P65_L0 (yield_0 : Nat) (n_3 : Int) (p_4 : Int) (w : World) (Q : Post) : Prop :=
  ∃ r5, IntKind.i64.wrap ((p_4) * (p_4)) = r5 ∧ cnd (decide ((r5 : Int) ≤ (n_3))) (J F65 (hd F65 2) 2 [.func (.yield yield_0) #[] #[], .int .i64 n_3, .int .i64 p_4, .int .i64 0] w Q) (cnd (decide ((1 : Int) < (n_3))) (Yd PR yield_0 [.int .i64 n_3, .int .i64 1] w fun v6 w7 => ∃ x8, v6 = .bool x8 ∧ Q .ret [.tuple #[]] w7) (Q .ret [.tuple #[]] w))
theorem T65_L0 (yield_0 : Nat) (n_3 : Int) (p_4 : Int) (w : World) (Q : Post) : S F65 0 [.func (.yield yield_0) #[] #[], .int .i64 n_3, .int .i64 p_4] w Q = P65_L0 yield_0 n_3 p_4 w Q := by kernel_rfl
theorem L65_2 : isLoop 2 (hd F65 2) = true := by kernel_rfl
def P65_2 (yield_0 : Nat) (n_3 : Int) (p_4 : Int) (exp_5 : Int) (w : World) (Q : Post) : Prop :=
  (p_4 : Int) ≠ 0 ∧ ∃ r9, (n_3 : Int).tmod (p_4) = r9 ∧ cnd (decide ((r9 : Int) = 0)) ((p_4 : Int) ≠ 0 ∧ ∃ r10, IntKind.i64.wrap ((n_3 : Int).tdiv (p_4)) = r10 ∧ ∃ r11, IntKind.i64.wrap ((exp_5) + 1) = r11 ∧ Q (.again 2) [.func (.yield yield_0) #[] #[], .int .i64 r10, .int .i64 p_4, .int .i64 r11] w) (cnd (decide ((0 : Int) < (exp_5))) (Yd PR yield_0 [.int .i64 p_4, .int .i64 exp_5] w fun v12 w13 => ∃ x14, v12 = .bool x14 ∧ cnd (!x14) (Q .ret [.tuple #[]] w13) (∃ r15, IntKind.i64.wrap ((p_4) + 1) = r15 ∧ Q (.again 0) [.func (.yield yield_0) #[] #[], .int .i64 n_3, .int .i64 r15] w13)) (∃ r16, IntKind.i64.wrap ((p_4) + 1) = r16 ∧ Q (.again 0) [.func (.yield yield_0) #[] #[], .int .i64 n_3, .int .i64 r16] w))
theorem T65_2 (yield_0 : Nat) (n_3 : Int) (p_4 : Int) (exp_5 : Int) (w : World) (Q : Post) : S F65 2 [.func (.yield yield_0) #[] #[], .int .i64 n_3, .int .i64 p_4, .int .i64 exp_5] w Q = P65_2 yield_0 n_3 p_4 exp_5 w Q := by kernel_rfl
/-! ## dauber/design.sized -/
noncomputable def code66 : Code := match Tryz.f66.body with | some c => c | none => .skip
noncomputable def F66 : FD := { P := PR, f := 66, code := code66, nt := 7, res := Tryz.f66.results.toList, live := fun  | _ => [], tail := fun  | _ => 0, rnd := false, ng := true }
def P66_0 (n_0 : Int) (w : World) (Q : Post) : Prop :=
  ∃ r1, IntKind.i64.wrap (0 - (n_0)) = r1 ∧ Q .ret [.int .i64 (if (r1 : Int) > n_0 then r1 else n_0)] w
theorem T66_0 (n_0 : Int) (w : World) (Q : Post) : S0 F66 1 [.int .i64 n_0] w Q = P66_0 n_0 w Q := by kernel_rfl
theorem U66 {n_0 : Int} {w : World} {R : Value → World → Prop} (h : P66_0 n_0 w (retQ R)) : Fn PR 66 [.int .i64 n_0] w R := Fn_of (F := F66) (fn := Tryz.f66) hmx Tryz.func66 (by kernel_rfl) (by kernel_rfl) (by kernel_rfl) (by kernel_rfl) (by kernel_rfl) rfl rfl ((T66_0 n_0 w _).mpr h)
end Go.Proofs.YthekpkamedjloaaGreat
