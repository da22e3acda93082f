-- Written by a program of this session (a turned copy of the kit's printer, texts of this session's own for functions that it does not take).
import Derived.Test.YtdjbpdahdakfjaaRows
import Derived.Test.YtdjbpdahdakfjaaPLookx8
import Derived.Test.YtdjbpdahdakfjaaHRow
import Derived.Test.YtdjbpdahdakfjaaPureLookupPlays
namespace Go.Proofs.Ytdjbpdahdakfjaa.lookupPlays
open Go.ChangeShapes Go.WideShapes Go.ChangeAt Go.RowKit Go.Proofs.Ytdjbpdahdakfjaa.PLook Go.Proofs.YtdjbpdahdakfjaaH Go.Proofs.YtdjbpdahdakfjaaW.PrintWords
open Go.ChangeMaps (open_string shut_string)
set_option linter.unusedVariables false
theorem own : ownKnob Try.prog.godebug = none := by kernel_rfl
theorem laidOut : laidOutB Try.prog = true := by kernel_rfl
set_option maxRecDepth 100000 in
theorem opensS117 : Opens Try.prog 117 k117 okS117 := by
  have h := opens_struct Try.underlying117 (by kernel_rfl) (opensF_cons rfl (opens_int Try.underlying3 (by kernel_rfl)) (opensF_cons rfl (opens_int Try.underlying60 (by kernel_rfl)) (opensF_one rfl (opens_int Try.underlying21 (by kernel_rfl)))))
  exact opens_iso' h (fun x : S117 => (x.f0, x.f1, x.f2)) (fun p => ⟨p.1, p.2.1, p.2.2⟩) (fun _ => rfl) (fun x hx => hx)
set_option maxRecDepth 100000 in
theorem walk (W : World) (base : Nat) (args : Array Value) {H : Type} {enc : TypeId × Value → H} (ds : List (DataW H)) (ps : List MemPlace) (hval : ∀ (j : Nat) t v, Try.f13.params[j]? = some t → args[j]? = some v → Value.okWide Try.prog W .any base t v)
    (hA : DataW.TrodAll enc Try.prog W 0 (fun _ => true) true Try.f13.params.toList args.toList ds ps) (hsz : (DataW.weightsEach Try.prog Try.f13.params.toList ds).all (· ≤ reachBytes) = true) :
    Calls Try.prog 13 args W fun e W' => e = .returned (.bool true) ∧ Below W.heap.size W W' := by
  rw [Try.params13] at hA hval hsz
  obtain ⟨v0, vs0, d0, ds0, p0, q0, hargs, rfl, rfl, h0, r0⟩ := trodAll_cons hA
  obtain ⟨v1, vs1, d1, ds1, p1, q1, rfl, rfl, rfl, h1, r1⟩ := trodAll_cons r0
  obtain ⟨rfl, rfl, rfl⟩ := trodAll_nil r1
  obtain rfl : args = #[v0, v1] := by cases args; simp_all
  obtain ⟨a0, len0, cap0, rfl⟩ := okWide_slice Try.underlying77 (hval 0 77 v0 rfl rfl)
  obtain ⟨fuel0, hf0⟩ := h0
  obtain ⟨A0, c0, l0, hcs0, hc0, hr0, hok0, hd0⟩ := slice_reads Try.underlying77 opensS117 hf0
  simp only [Value.cells, List.cons.injEq, Value.slice.injEq, and_true] at hcs0
  obtain ⟨rfl, rfl, rfl⟩ := hcs0
  have y0 : l0.length * 24 ≤ 140737488351232 := by
    rcases hd0 with ⟨_, e_⟩ | ⟨es, sp, e_, hl_⟩
    · rw [e_]; decide
    · have z := sized_slice hsz (j := 0) (t := 77) (elems := es) (spare := sp) rfl (by rw [← e_]; rfl) Try.underlying77
      have hb_ : Try.prog.bytesOf 117 = 24 := by kernel_rfl
      rw [hb_, hl_] at z
      exact Nat.le_trans (Nat.mul_le_mul_right _ (Nat.le_add_right _ _)) z
  obtain ⟨a1, rfl, rfl, rfl, w1⟩ := open_int Try.underlying60 (hval 1 60 v1 rfl rfl) h1
  have h := Pure.LookupPlays l0 a1 y0 hok0 w1
  refine (hutchlaw06_LookupPlays.calls _ _ l0 a1 true W hr0 hc0 h).mono ?_
  rintro e w' ⟨rfl, hd⟩
  exact ⟨rfl, hd⟩
set_option maxRecDepth 100000 in
theorem lifted (os : Os) (started : os.Started) (H : Type) (enc : TypeId × Value → H) :
    ReturnsInHanded {} Try.checked os 13 .any (Rows.lookupPlaysSpec.pre6 enc Try.prog Try.f13 Rows.lookupPlaysRow.domain false) (Rows.lookupPlaysSpec.post enc Try.prog Try.f13 false true false false) :=
  lifted_of (C := Try.checked) (s := Rows.lookupPlaysSpec) own started (by kernel_rfl) Try.func13 laidOut (by kernel_rfl) rfl Try.underlying4 rfl (fun H l hl => by
      match l, hl with
      | [_, _], _ => rfl)
    (ChangeSpec.witness6 (enc := enc) (C := Try.checked) false ⟨#[], #[.slice none 0 0, .int .u64 0], []⟩ 13 (by kernel_rfl) (by kernel_rfl) (by kernel_rfl) (by kernel_rfl))
    (fun W base args ds ps h1 h2 h3 => walk W base args ds ps h1 h2 h3)
theorem over : Rows.lookupPlaysRow.holds Try.pinned (OpenSpec.ofChange Rows.lookupPlaysSpec) :=
  OpenClaim.holds_of_wide 13 Try.f13 rfl rfl rfl rfl rfl rfl rfl ⟨rfl, rfl, rfl, rfl, rfl⟩ rfl rfl rfl rfl rfl (by kernel_rfl) Try.func13 (by kernel_rfl)
    (of_decide_eq_true (by kernel_rfl)) (by unfold Func.isWrapper; first | (rw [if_pos (by decide +kernel)]; kernel_rfl) | (rw [if_neg (by decide +kernel)]; exact ⟨rfl, rfl⟩))
    (fun os started H enc _ => lifted os started H enc)
theorem proved : Rows.LookupPlaysSaid := over
#print axioms proved
end Go.Proofs.Ytdjbpdahdakfjaa.lookupPlays
namespace Go.Proofs.Ytdjbpdahdakfjaa
/-- The row, under a short name, for the claim. -/
theorem lookupPlays_holds : Rows.LookupPlaysSaid := lookupPlays.proved
end Go.Proofs.Ytdjbpdahdakfjaa
