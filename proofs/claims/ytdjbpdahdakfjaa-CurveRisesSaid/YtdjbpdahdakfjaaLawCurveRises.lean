-- Written by a program of this session (a turned copy of the kit's printer, texts of this session's own for functions that it does not take).
import Derived.Test.YtdjbpdahdakfjaaRows
import Derived.Test.YtdjbpdahdakfjaaPCurvex6
import Derived.Test.YtdjbpdahdakfjaaHRow
import Derived.Test.YtdjbpdahdakfjaaPureCurveRises
namespace Go.Proofs.Ytdjbpdahdakfjaa.curveRises
open Go.ChangeShapes Go.WideShapes Go.ChangeAt Go.RowKit Go.Proofs.Ytdjbpdahdakfjaa.PCurve Go.Proofs.YtdjbpdahdakfjaaH Go.Proofs.YtdjbpdahdakfjaaW.PrintWords
open Go.ChangeMaps (open_string shut_string)
set_option linter.unusedVariables false
theorem own : ownKnob Try.prog.godebug = none := by kernel_rfl
theorem laidOut : laidOutB Try.prog = true := by kernel_rfl
set_option maxRecDepth 100000 in
theorem walk (W : World) (base : Nat) (args : Array Value) {H : Type} {enc : TypeId × Value → H} (ds : List (DataW H)) (ps : List MemPlace) (hval : ∀ (j : Nat) t v, Try.f12.params[j]? = some t → args[j]? = some v → Value.okWide Try.prog W .any base t v)
    (hA : DataW.TrodAll enc Try.prog W 0 (fun _ => true) true Try.f12.params.toList args.toList ds ps) (hsz : (DataW.weightsEach Try.prog Try.f12.params.toList ds).all (· ≤ reachBytes) = true) :
    Calls Try.prog 12 args W fun e W' => e = .returned (.bool true) ∧ Below W.heap.size W W' := by
  rw [Try.params12] at hA hval hsz
  obtain ⟨v0, vs0, d0, ds0, p0, q0, hargs, rfl, rfl, h0, r0⟩ := trodAll_cons hA
  obtain ⟨v1, vs1, d1, ds1, p1, q1, rfl, rfl, rfl, h1, r1⟩ := trodAll_cons r0
  obtain ⟨rfl, rfl, rfl⟩ := trodAll_nil r1
  obtain rfl : args = #[v0, v1] := by cases args; simp_all
  obtain ⟨a0, len0, cap0, rfl⟩ := okWide_slice Try.underlying22 (hval 0 22 v0 rfl rfl)
  obtain ⟨fuel0, hf0⟩ := h0
  obtain ⟨A0, c0, l0, hcs0, hc0, hr0, hok0, hd0⟩ := slice_reads Try.underlying22 (opens_int Try.underlying60 (by kernel_rfl)) hf0
  simp only [Value.cells, List.cons.injEq, Value.slice.injEq, and_true] at hcs0
  obtain ⟨rfl, rfl, rfl⟩ := hcs0
  have y0 : l0.length * 8 ≤ 140737488351232 := by
    rcases hd0 with ⟨_, e_⟩ | ⟨es, sp, e_, hl_⟩
    · rw [e_]; decide
    · have z := sized_slice hsz (j := 0) (t := 22) (elems := es) (spare := sp) rfl (by rw [← e_]; rfl) Try.underlying22
      have hb_ : Try.prog.bytesOf 60 = 8 := by kernel_rfl
      rw [hb_, hl_] at z
      exact Nat.le_trans (Nat.mul_le_mul_right _ (Nat.le_add_right _ _)) z
  obtain ⟨a1, rfl, rfl, rfl, w1⟩ := open_int Try.underlying3 (hval 1 3 v1 rfl rfl) h1
  obtain ⟨k, h⟩ := Pure.CurveRises l0 a1 y0 hok0 w1
  refine (hutchlaw26_CurveRises.calls k _ _ l0 a1 true W hr0 hc0 h).mono ?_
  rintro e w' ⟨rfl, hd⟩
  exact ⟨rfl, hd⟩
set_option maxRecDepth 100000 in
theorem lifted (os : Os) (started : os.Started) (H : Type) (enc : TypeId × Value → H) :
    ReturnsInHanded {} Try.checked os 12 .any (Rows.curveRisesSpec.pre6 enc Try.prog Try.f12 Rows.curveRisesRow.domain false) (Rows.curveRisesSpec.post enc Try.prog Try.f12 false true false false) :=
  lifted_of (C := Try.checked) (s := Rows.curveRisesSpec) own started (by kernel_rfl) Try.func12 laidOut (by kernel_rfl) rfl Try.underlying4 rfl (fun H l hl => by
      match l, hl with
      | [_, _], _ => rfl)
    (ChangeSpec.witness6 (enc := enc) (C := Try.checked) false ⟨#[], #[.slice none 0 0, .int .i64 0], []⟩ 12 (by kernel_rfl) (by kernel_rfl) (by kernel_rfl) (by kernel_rfl))
    (fun W base args ds ps h1 h2 h3 => walk W base args ds ps h1 h2 h3)
theorem over : Rows.curveRisesRow.holds Try.pinned (OpenSpec.ofChange Rows.curveRisesSpec) :=
  OpenClaim.holds_of_wide 12 Try.f12 rfl rfl rfl rfl rfl rfl rfl ⟨rfl, rfl, rfl, rfl, rfl⟩ rfl rfl rfl rfl rfl (by kernel_rfl) Try.func12 (by kernel_rfl)
    (of_decide_eq_true (by kernel_rfl)) (by unfold Func.isWrapper; first | (rw [if_pos (by decide +kernel)]; kernel_rfl) | (rw [if_neg (by decide +kernel)]; exact ⟨rfl, rfl⟩))
    (fun os started H enc _ => lifted os started H enc)
theorem proved : Rows.CurveRisesSaid := over
#print axioms proved
end Go.Proofs.Ytdjbpdahdakfjaa.curveRises
namespace Go.Proofs.Ytdjbpdahdakfjaa
/-- The row, under a short name, for the claim. -/
theorem curveRises_holds : Rows.CurveRisesSaid := curveRises.proved
end Go.Proofs.Ytdjbpdahdakfjaa
