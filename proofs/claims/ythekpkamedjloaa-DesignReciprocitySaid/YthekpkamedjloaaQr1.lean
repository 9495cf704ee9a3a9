/- DesignReciprocity: the statement's walk. -/
import Derived.Test.YthekpkamedjloaaPa1
import Derived.Test.YthekpkamedjloaaMR2
import Derived.Test.YthekpkamedjloaaVr
import Derived.Test.YthekpkamedjloaaKr
namespace Go.Proofs.Ythekpkamedjloaa
open Go.RowKit
theorem cnd_T (x y : Prop) : cnd true x y = x := rfl
theorem cnd_F (x y : Prop) : cnd false x y = y := rfl
theorem wrap_u {x : Int} : 0 ≤ IntKind.u64.wrap x := by
  simp only [IntKind.wrap, IntKind.bits, IntKind.signed, Bool.false_and, Bool.false_eq_true, if_false]
  exact Int.emod_nonneg _ (by omega)
theorem umodc {x m : Int} {K : Int → Prop} (hn : 0 < m) (hn2 : m ≤ 10000000) (h : ∀ r : Int, 0 ≤ r → r < m → K r) :
    ∃ r26, IntKind.u64.wrap x = r26 ∧ m ≠ 0 ∧ ∃ r28, (r26 : Int).tmod m = r28 ∧ ∃ r29, IntKind.i64.wrap r28 = r29 ∧ K r29 := by
  refine ⟨_, rfl, by omega, ?_⟩
  have h0 := Int.emod_nonneg (IntKind.u64.wrap x) (show m ≠ 0 by omega)
  have h1 := Int.emod_lt_of_pos (IntKind.u64.wrap x) hn
  refine ⟨_, tmod_nn wrap_u, wr (by omega) (by omega) (h _ h0 h1)⟩
theorem isPl_plc {p : Int} (h : isPl p) : plc p := h.elim .inl fun h => .inr h.2
theorem rng_ok {a b : Int} (ha : a ≠ 0) (hb : b ≠ 0) (ha2 : a.natAbs ≤ 1000000) (hb2 : b.natAbs ≤ 1000000) : rng a b = 0 := by unfold rng; rw [if_neg (by omega), if_pos ⟨ha2, hb2⟩]
open Classical in
theorem symbol_use {w : World} {a b p : Int} {K : Value → World → Prop} (ha : a ≠ 0) (hb : b ≠ 0) (ha2 : a.natAbs ≤ 1000000) (hb2 : b.natAbs ≤ 1000000) (hp : isPl p)
    (hk : ∀ w', Ext w w' → K (.tuple #[.int .i64 (sym a b p), .int .i64 0]) w') : Fn PR 6 [.int .i64 a, .int .i64 b, .int .i64 p] w K := by
  refine (Symbol_ok w a b p).use ?_
  rintro _ w' ⟨rfl, hE⟩
  have h0 := rng_ok ha hb ha2 hb2
  have e1 : (if rng a b = 0 ∧ isPl p then sym a b p else 0) = sym a b p := if_pos ⟨h0, hp⟩
  have e2 : (if rng a b ≠ 0 then rng a b else if isPl p then 0 else 1) = 0 := by rw [if_neg (by simp [h0]), if_pos hp]
  rw [e1, e2]
  exact hk w' hE
theorem plcS_form {a b : Int} {xs : List Int} (h : plcS a b xs) : ∃ l, xs = -1 :: 2 :: l := by
  refine ⟨xs.filter fun x => decide (2 < x), rising_eq h.1 ?_ fun x => ?_⟩
  · refine List.pairwise_cons.2 ⟨fun x hx => ?_, List.pairwise_cons.2 ⟨fun x hx => ?_, h.1.filter _⟩⟩
    · rcases List.mem_cons.1 hx with rfl | hx
      · omega
      · have := (List.mem_filter.1 hx).2; simp at this; omega
    · have := (List.mem_filter.1 hx).2; simp at this; omega
  · rw [List.mem_cons, List.mem_cons, List.mem_filter]
    constructor
    · intro hx
      rcases (h.2 x).1 hx with e | e | ⟨hp, _⟩
      · exact .inl e
      · exact .inr (.inl e)
      · by_cases e : x = 2
        · exact .inr (.inl e)
        · have := hp.1
          exact .inr (.inr ⟨hx, by simp; omega⟩)
    · rintro (e | e | ⟨hx, _⟩)
      · exact (h.2 x).2 (.inl e)
      · exact (h.2 x).2 (.inr (.inl e))
      · exact hx
theorem sym_pm1 (a b p : Int) : sym a b p = 1 ∨ sym a b p = -1 := sym_pm
theorem prd_pm {l : List Int} (h : ∀ x ∈ l, x = 1 ∨ x = -1) : prd l = 1 ∨ prd l = -1 := by
  induction l with
  | nil => exact .inl rfl
  | cons x l ih =>
    rw [prd_cons]
    rcases h x (List.mem_cons_self ..) with e | e <;> rcases ih (fun y hy => h y (List.mem_cons_of_mem _ hy)) with e2 | e2 <;> rw [e, e2] <;> simp
theorem plcS_tot {a b : Int} {xs : List Int} (h : plcS a b xs) (ha : a ≠ 0) (hb : b ≠ 0) (ha2 : a.natAbs < 1000) (hb2 : b.natAbs < 1000) : prd (xs.map (sym a b)) = 1 := by
  rw [← tot_on (h.1.imp fun h => by omega) (fun x hx => ?_) (fun p hp h2 hn => ?_) ((h.2 _).2 (.inl rfl)) ((h.2 _).2 (.inr (.inl rfl)))]
  · exact tot_one ha hb ha2 hb2
  · rcases (h.2 x).1 hx with rfl | rfl | ⟨hp, hd⟩
    · simp [allPl]
    · simp [allPl]
    · refine mem_allPl hp ?_
      rcases hd with hd | hd
      · have h1 : x ∣ (a.natAbs : Int) := Int.dvd_natAbs.2 (Int.dvd_of_emod_eq_zero hd)
        have := Int.le_of_dvd (by omega) h1
        omega
      · have h1 : x ∣ (b.natAbs : Int) := Int.dvd_natAbs.2 (Int.dvd_of_emod_eq_zero hd)
        have := Int.le_of_dvd (by omega) h1
        omega
  · exact ⟨fun e => hn ((h.2 p).2 (.inr (.inr ⟨hp, .inl e⟩))), fun e => hn ((h.2 p).2 (.inr (.inr ⟨hp, .inr e⟩)))⟩
open Classical in
theorem reciprocity_law (w : World) (x0 x1 x2 place : Int) : Fn PR 3 [.agg #[.int .i64 x0, .int .i64 x1, .int .i64 x2], .int .i64 place] w fun v w' => v = .bool true ∧ Ext w w' := by
  refine U3 ?_
  unfold P3_0
  refine newRow (B := w.heap.size) 3 rfl (Nat.le_refl _) (by omega) fun b1 w2 hb1 hE2 hs2 h2 => ?_
  rintro w3 rfl
  have hE3 := hE2.trans (Ext.drew w2)
  have h3 := h2.ext (Ext.drew w2)
  refine ⟨by omega, by omega, _, h3.at rfl, by omega, _, rfl, by omega, by omega, _, h3.at rfl, by omega, _, rfl, by omega, by omega, _, h3.at rfl, by omega, _, rfl, ?_⟩
  have ha := tmod_range x0 (show (0 : Int) < 1000 by omega)
  have hb := tmod_range x1 (show (0 : Int) < 1000 by omega)
  have hc := tmod_range x2 (show (0 : Int) < 1000 by omega)
  generalize x0.tmod 1000 = a at *
  generalize x1.tmod 1000 = b at *
  generalize x2.tmod 1000 = c at *
  generalize w2.drew = w3 at *
  clear h2 h3
  have aw : ∀ W, Ext w W → Fn PR 4 [] W fun v w' => ∃ x, v = .bool x ∧ retQ (fun v w' => v = .bool true ∧ Ext w w') .ret [.bool x] w' := fun W hE => by
    refine (awake_ok W).use ?_
    rintro _ w' ⟨rfl, hE'⟩
    exact ⟨_, rfl, rfl, hE.trans hE'⟩
  refine cnd_decide (fun _ => aw _ hE3) (fun ha0 => cnd_decide (fun _ => aw _ hE3) (fun hb0 => cnd_decide (fun _ => aw _ hE3) (fun hc0 => ?_)))
  have hbc : (b * c).natAbs ≤ 1000000 := by
    rw [Int.natAbs_mul]
    have : b.natAbs * c.natAbs ≤ 999 * 999 := Nat.mul_le_mul (by omega) (by omega)
    omega
  have hbc0 : b * c ≠ 0 := Int.mul_ne_zero hb0 hc0
  refine (Places_ok w3 a b).use ?_
  rintro _ w4 ⟨⟨p, n, cp, xs, rfl, hown, hpl, _, hn⟩, hE4⟩
  have hr0 := rng_ok ha0 hb0 (by omega) (by omega)
  have hpl := hpl hr0
  rw [hr0]
  refine ⟨_, _, _, _, rfl, ?_⟩
  simp only [decide_true, Bool.not_true, cnd_F]
  obtain ⟨l, hl⟩ := plcS_form hpl
  have hnl := ilenR hown
  have hi : Ints w4 p xs := hown.ints (by omega)
  have hl2 : 2 ≤ xs.length := by rw [hl]; simp
  subst hnl
  refine cnd_decide (fun h => by omega) (fun _ => ?_)
  refine ix hi rfl (by omega) (by omega) ?_
  have g0 : gi xs 0 = -1 := by rw [hl]; rfl
  have g1 : gi xs 1 = 2 := by rw [hl]; rfl
  rw [g0]
  simp only [decide_true, Bool.not_true, cnd_F]
  refine ix hi rfl (by omega) (by omega) ?_
  rw [g1]
  simp only [decide_true, Bool.not_true, cnd_F]
  have hE0 : Ext w w4 := hE3.trans hE4
  have hplace := plcS_place hpl ha0 hb0 (by omega) (by omega)
  have hisPl : ∀ x ∈ xs, isPl x := by
    intro x hx
    rcases (hpl.2 x).1 hx with e | e | ⟨hp, _⟩
    · exact .inl e
    · rw [e]; exact .inr ⟨by omega, isP_two⟩
    · refine .inr ⟨?_, hp⟩
      have := hplace x hx
      have := hp.1
      omega
  refine J_loop (F := F3) hmx L3_0 (fun i : Nat => [.int .i64 place, .int .i64 a, .int .i64 b, .int .i64 c, .slice p xs.length cp, .int .i64 (prd ((xs.take i).map (sym a b))), .int .i64 i]) (fun i W => i ≤ xs.length ∧ Ext w4 W) (fun i _ => xs.length - i) 0 rfl ⟨by omega, Ext.refl _⟩ ?_
  rintro i W ⟨hi1, hE⟩
  refine (T3_L0 ..).mpr ?_
  simp only [P3_L0, setA_ret, setA_again, retQ_ret, if_true]
  refine cnd_decide (fun hlt => ?_) (fun hge => ?_)
  · have hi2 : i < xs.length := by omega
    have hpp := hisPl _ (List.getElem_mem hi2)
    have hpc := isPl_plc hpp
    refine ix (hi.ext hE) rfl (by omega) (by omega) ?_
    rw [gi_get hi2]
    refine symbol_use ha0 hb0 (by omega) (by omega) hpp fun w5 hE5 => ⟨_, _, rfl, ?_⟩
    refine ix (hi.ext (hE.trans hE5)) rfl (by omega) (by omega) ?_
    rw [gi_get hi2]
    refine symbol_use hb0 ha0 (by omega) (by omega) hpp fun w6 hE6 => ⟨_, _, rfl, wr (by omega) (by omega) ?_⟩
    refine ix (hi.ext (hE.trans (hE5.trans hE6))) rfl (by omega) (by omega) ?_
    rw [gi_get hi2, Int.zero_sub]
    refine symbol_use ha0 (show -a ≠ 0 by omega) (by omega) (by omega) hpp fun w7 hE7 => ⟨_, _, rfl, ?_⟩
    refine ix (hi.ext (hE.trans (hE5.trans (hE6.trans hE7)))) rfl (by omega) (by omega) ?_
    rw [gi_get hi2]
    refine symbol_use ha0 hc0 (by omega) (by omega) hpp fun w8 hE8 => ⟨_, _, rfl, wr (by omega) (by omega) ?_⟩
    refine ix (hi.ext (hE.trans (hE5.trans (hE6.trans (hE7.trans hE8))))) rfl (by omega) (by omega) ?_
    rw [gi_get hi2]
    refine symbol_use ha0 hbc0 (by omega) (by omega) hpp fun w9 hE9 => ⟨_, _, rfl, ?_⟩
    have hE9' := hE.trans (hE5.trans (hE6.trans (hE7.trans (hE8.trans hE9))))
    simp only [decide_true, Bool.not_true, cnd_F, sym_comm b a, sym_neg hpc ha0]
    have s1 := sym_pm1 a b xs[i]
    have s2 := sym_pm1 a c xs[i]
    have s3 : -1 ≤ sym a b xs[i] * sym a c xs[i] ∧ sym a b xs[i] * sym a c xs[i] ≤ 1 := by rcases s1 with e | e <;> rcases s2 with e2 | e2 <;> rw [e, e2] <;> omega
    have hpd := prd_pm (l := (xs.take i).map (sym a b)) (fun x hx => by obtain ⟨y, _, rfl⟩ := List.mem_map.1 hx; exact sym_pm1 a b y)
    have hnext : prd ((xs.take (i + 1)).map (sym a b)) = prd ((xs.take i).map (sym a b)) * sym a b xs[i] := by
      rw [List.take_succ_eq_append_getElem hi2, List.map_append, prd_append]
      simp [prd]
    have s4 : -1 ≤ prd ((xs.take i).map (sym a b)) * sym a b xs[i] ∧ prd ((xs.take i).map (sym a b)) * sym a b xs[i] ≤ 1 := by rcases s1 with e | e <;> rcases hpd with e2 | e2 <;> rw [e, e2] <;> omega
    refine wr (by omega) (by omega) ?_
    rw [sym_mul hpc ha0 hb0 hc0]
    simp only [decide_true, Bool.not_true, cnd_F]
    have fin : ∃ r, IntKind.i64.wrap (prd ((xs.take i).map (sym a b)) * sym a b xs[i]) = r ∧ ∃ r2, IntKind.i64.wrap ((i : Int) + 1) = r2 ∧ ∃ y : Nat, [Value.int .i64 place, .int .i64 a, .int .i64 b, .int .i64 c, .slice p xs.length cp, .int .i64 r, .int .i64 r2] = [.int .i64 place, .int .i64 a, .int .i64 b, .int .i64 c, .slice p xs.length cp, .int .i64 (prd ((xs.take y).map (sym a b))), .int .i64 (y : Int)] ∧ (y ≤ xs.length ∧ Ext w4 w9) ∧ xs.length - y < xs.length - i := by
      refine wr (by omega) (by omega) (wr (by omega) (by have := hi.len; omega) ⟨i + 1, ?_, ⟨by omega, hE9'⟩, by omega⟩)
      rw [hnext]; rfl
    refine cnd_not (cnd_decide (fun _ => fin) (fun e => cnd_not (cnd_decide (fun _ => fin) (fun e2 => ?_))))
    exact absurd (s1.resolve_left e) e2
  · have : i = xs.length := by omega
    subst this
    rw [List.take_length, plcS_tot hpl ha0 hb0 (by omega) (by omega)]
    have aw' : ∀ W', Ext w4 W' → Fn PR 4 [] W' fun v w' => ∃ x, v = .bool x ∧ (Value.bool x = .bool true ∧ Ext w w') := fun W' hE' => by
      refine (awake_ok W').use ?_
      rintro _ w' ⟨rfl, hE''⟩
      exact ⟨_, rfl, rfl, hE0.trans (hE'.trans hE'')⟩
    simp only [decide_true, cnd_T]
    refine umodc (by omega) (by omega) fun r hr hr2 => wr (by omega) (by omega) (wr (by omega) (by omega) ?_)
    refine (isPlace_ok W (3 + 2 * r)).use ?_
    rintro _ _ ⟨rfl, rfl⟩
    refine ⟨_, rfl, cnd_not (cnd_decide (fun hp => ?_) (fun _ => aw' _ hE))⟩
    have hP : isP (3 + 2 * r) := (hp.resolve_left (by omega)).2
    refine ⟨by omega, _, rfl, cnd_decide (fun _ => aw' _ hE) (fun hna => ⟨by omega, _, rfl, cnd_decide (fun _ => aw' _ hE) (fun hnb => ?_)⟩)⟩
    refine symbol_use ha0 hb0 (by omega) (by omega) hp fun w5 hE5 => ⟨_, _, rfl, ?_⟩
    rw [sym_unit hP (by omega) (fun h => hna (tmod_zero.2 h)) (fun h => hnb (tmod_zero.2 h))]
    simp only [decide_true, cnd_T]
    exact aw' _ (hE.trans hE5)
end Go.Proofs.Ythekpkamedjloaa
