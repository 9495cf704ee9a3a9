/- DesignChecks: whatever the blocks, the law's function returns true, and the input reads as it did. -/
import Derived.Test.YthekpkamedjloaaGreatRows
import Derived.Test.YthekpkamedjloaaGreatQl3
namespace Go.Proofs.YthekpkamedjloaaGreat.designChecks
open Go.ChangeShapes Go.WideShapes Go.ChangeAt Go.RowKit

theorem own : ownKnob Tryz.prog.godebug = none := by kernel_rfl
theorem laidOut : laidOutB Tryz.prog = true := by kernel_rfl
theorem walk (a0 : Int) (a : Option Addr) (n c : Nat) (hs : List (Option Addr × Nat)) (xs : List (List Int)) (w : World) (h : SlI2 w a n c hs xs) :
    Calls Tryz.prog 5 #[.int .i64 a0, .slice a n c] w fun e w' => e = .returned (.bool true) ∧ Below w.heap.size w w' := by
  refine (checks_law w a0 a n c hs xs h).calls.mono ?_
  rintro e w' ⟨v, rfl, ⟨rfl, h⟩, _⟩
  exact ⟨rfl, h⟩
set_option maxRecDepth 100000 in
theorem lifted (os : Os) (started : os.Started) (H : Type) (enc : TypeId × Value → H) :
    ReturnsInHanded {} Tryz.checked os 5 .any (Rows.designChecksSpec.pre6 enc Tryz.prog Tryz.f5 Rows.designChecksRow.domain false) (Rows.designChecksSpec.post enc Tryz.prog Tryz.f5 false true false false) := by
  refine returnsInHanded_of_change (C := Tryz.checked) own started (by kernel_rfl) Tryz.func5
    (ChangeSpec.witness6 (enc := enc) (C := Tryz.checked) false ⟨#[], #[.int .i64 0, .slice none 0 0], []⟩ 8 (by kernel_rfl) (by kernel_rfl) (by kernel_rfl) (by kernel_rfl)) ?_
  intro W base args ds gs before hval0 hW hcnd _
  have hval : ∀ (j : Nat) t v, Tryz.f5.params[j]? = some t → args[j]? = some v → Value.okWide Tryz.prog W .any base t v := hval0
  have hW' := hW
  obtain ⟨p, q, hA0, hV, rfl, hfz, hnd⟩ := hW
  have hA : DataW.TrodAll enc Tryz.prog W 0 (fun _ => true) true Tryz.f5.params.toList args.toList ds p := hA0
  obtain ⟨rfl, rfl⟩ := trodVars_none hV
  clear hA0 hval0
  simp only [List.append_nil] at hW'
  have hlt : ∀ x ∈ p, x.block < W.heap.size := fun x hx => by simpa using hW'.lt x hx
  have hargs := fun (W' : World) (hb : Below W.heap.size W W') => trodAll_stays (W' := W') laidOut hb _ _ _ _ (by kernel_rfl) hA hlt
  rw [Tryz.params5] at hA hval hargs
  obtain ⟨v0, vs0, d0, ds0, p0, q0, hvs, rfl, rfl, h0, r0⟩ := trodAll_cons hA
  obtain ⟨v1, vs1, d1, ds1, p1, q1, rfl, rfl, rfl, h1, r1⟩ := trodAll_cons r0
  obtain ⟨rfl, rfl, rfl⟩ := trodAll_nil r1
  obtain rfl : args = #[v0, v1] := by cases args; simp_all
  obtain ⟨a0, rfl, rfl, rfl, w0⟩ := open_int Tryz.underlying3 (hval 0 3 v0 rfl rfl) h0
  obtain ⟨a, n, c, hs, xs, rfl, hss⟩ := open_sli2 Tryz.underlying39 Tryz.underlying25 Tryz.underlying3 (by kernel_rfl) (by kernel_rfl) (hval 1 39 v1 rfl rfl) h1
  refine (walk a0 a n c hs xs W hss).mono fun e W' ⟨he, hg⟩ => ?_
  subst he
  exact ⟨_, rfl, _, _, _, [], _, [], hW', trodAll_cons_mk (shut_bool Tryz.underlying4 _) trodAll_mk0, hargs W' hg, rfl, hg.frame _, fun h => by cases h⟩
theorem over : Rows.designChecksRow.holds Tryz.pinned (OpenSpec.ofChange Rows.designChecksSpec) :=
  OpenClaim.holds_of_wide 5 Tryz.f5 rfl rfl rfl rfl rfl rfl rfl ⟨rfl, rfl, rfl, rfl, rfl⟩ rfl rfl rfl rfl rfl (by kernel_rfl) Tryz.func5 (by kernel_rfl)
    (of_decide_eq_true (by kernel_rfl)) (by unfold Func.isWrapper; first | (rw [if_pos (by decide +kernel)]; kernel_rfl) | (rw [if_neg (by decide +kernel)]; exact ⟨rfl, rfl⟩))
    (fun os started H enc _ => lifted os started H enc)
theorem proved : Rows.DesignChecksSaid := over
#print axioms proved
end Go.Proofs.YthekpkamedjloaaGreat.designChecks
