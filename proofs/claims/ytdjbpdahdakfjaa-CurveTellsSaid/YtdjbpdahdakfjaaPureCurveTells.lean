/- The statement CurveTells over plain values: hits, gain and curve are how many places have a distance below a size. -/
import Derived.Test.YtdjbpdahdakfjaaCurvePure2
namespace Go.Proofs.Ytdjbpdahdakfjaa.CurvePure
open Go.RowKit Go.Proofs.YtdjbpdahdakfjaaH Go.Proofs.Ytdjbpdahdakfjaa.PCurve Go.Proofs.YtdjbpdahdakfjaaW.PrintWords Go.Proofs.YtdjbpdahdakfjaaW.PrintLast Go.Proofs.YtdjbpdahdakfjaaW.PrintMore Go.Proofs.YtdjbpdahdakfjaaW

theorem alive_ev : Ev (fun k => hutchlaw26_alive.f k) true := Ev.of hutchlaw26_alive.mono (k := 20) (by decide +kernel)
theorem alive2_ev : Ev (fun k => (hutchlaw26_alive.f k).bind fun t => some t) true := Ev.bind alive_ev (Ev.now true)
theorem tells_end (l : List Int) (L : Nat) (hL : 1 ≤ L) (hL2 : L ≤ 4097) (hb : l.length ≤ 80) (i : Int) : Ev (fun k => hutchlaw26_CurveTells.j5 k l (curveOf (distOf l) L) i false) true := by
  have hll := curveOf_len (distOf l) L
  have hw1 : wrap64 ((L : Int) - 1) = ((L - 1 : Nat) : Int) := by unfold wrap64; omega
  refine Ev.step (f := fun k => (hutchref26_Hits.f k l ((L - 1 : Nat) : Int)).bind fun t170 => (if (rd (curveOf (distOf l) L) ((L - 1 : Nat) : Int)) = t170 then ((hutchlaw26_alive.f k).bind fun t171 => (some t171)) else (some false))) (fun k => ?_) (Ev.bind (hits_ev l _ (by omega)) ?_)
  · simp only [hutchlaw26_CurveTells.j5]
    rw [if_neg (by simp), hll, if_pos (by omega), hw1, if_pos (by omega), if_pos (by omega)]
  · simp only [curveOf_rd (distOf l) L (L - 1) (by omega), if_true]
    exact alive2_ev
theorem tells_l0 (l : List Int) (L : Nat) (hL : 1 ≤ L) (hL2 : L ≤ 4097) (hb : l.length ≤ 80) (d : Nat) : ∀ i : Nat, 15 - i = d → Ev (fun k => hutchlaw26_CurveTells.l0 k l (curveOf (distOf l) L) (i : Int)) true := by
  have hll := curveOf_len (distOf l) L
  induction d with
  | zero =>
    intro i hd
    refine Ev.step (f := fun k => hutchlaw26_CurveTells.j5 k l (curveOf (distOf l) L) (i : Int) false) (fun k => ?_) (tells_end l L hL hL2 hb _)
    simp only [hutchlaw26_CurveTells.l0]
    rw [decide_eq_false (by omega)]
    split <;> rfl
  | succ d ih =>
    intro i hd
    by_cases hi : i < L
    · refine Ev.step (f := fun k => hutchlaw26_CurveTells.j5 k l (curveOf (distOf l) L) (i : Int) true) (fun k => ?_) ?_
      · simp only [hutchlaw26_CurveTells.l0]
        rw [hll, if_pos (by omega), decide_eq_true (by omega)]
      · refine Ev.step (f := fun k => (hutchref26_Hits.f k l (i : Int)).bind fun t168 => (if (rd (curveOf (distOf l) L) (i : Int)) = t168 then (hutchlaw26_CurveTells.l0 k l (curveOf (distOf l) L) ((i + 1 : Nat) : Int)) else (some false))) (fun k => ?_) (Ev.bind (hits_ev l _ (by omega)) ?_)
        · simp only [hutchlaw26_CurveTells.j5]
          rw [if_pos trivial, hll, if_pos (by omega), if_pos (by omega), w64_succ i (by omega)]
        · simp only [curveOf_rd (distOf l) L i hi, if_true]
          exact ih (i + 1) (by omega)
    · refine Ev.step (f := fun k => hutchlaw26_CurveTells.j5 k l (curveOf (distOf l) L) (i : Int) false) (fun k => ?_) (tells_end l L hL hL2 hb _)
      simp only [hutchlaw26_CurveTells.l0]
      rw [hll, if_neg (by omega)]
theorem tells_j2 (l : List Int) (a : Int) (hb : l.length ≤ 80) (hw : ∀ x ∈ l, (Lit.int .u64 x).wf = true) (ha : -9223372036854775808 ≤ a ∧ a ≤ 9223372036854775807) : Ev (fun k => hutchlaw26_CurveTells.j2 k l a false) true := by
  by_cases h0 : 0 ≤ a
  · have hm : (lenOf a : Int) = mn a 4096 + 1 ∧ 0 ≤ mn a 4096 ∧ mn a 4096 ≤ 4096 := by unfold lenOf mn; split <;> omega
    have hll := curveOf_len (distOf l) (lenOf a)
    have he : mx 0 (wrap64 (mn a 4096 + 1)) = (lenOf a : Int) := by
      have : wrap64 (mn a 4096 + 1) = (lenOf a : Int) := by unfold wrap64; omega
      rw [this]
      unfold mx
      split <;> omega
    refine Ev.step (f := fun k => (curve_Curve.f k l a).bind fun t164 => (if (t164.length : Int) = (mx 0 (wrap64 ((mn a 4096) + 1))) then (if a < 0 then (hutchlaw26_CurveTells.j3 k l t164 ((t164.length : Int) != 0)) else (hutchlaw26_CurveTells.j3 k l t164 false)) else (if a ≥ 0 then (hutchlaw26_CurveTells.j3 k l t164 true) else (if a < 0 then (hutchlaw26_CurveTells.j3 k l t164 ((t164.length : Int) != 0)) else (hutchlaw26_CurveTells.j3 k l t164 false))))) (fun k => ?_) (Ev.bind (curve_ev l a (by omega) hw h0) ?_)
    · simp only [hutchlaw26_CurveTells.j2]
      rw [if_neg (by simp)]
    · simp only [hll, he, if_true, if_neg (show ¬ a < 0 by omega)]
      refine Ev.step (f := fun k => hutchlaw26_CurveTells.l0 k l (curveOf (distOf l) (lenOf a)) ((0 : Nat) : Int)) (fun k => ?_) (tells_l0 l _ (by omega) (by omega) hb _ 0 rfl)
      simp only [hutchlaw26_CurveTells.j3]
      rw [if_neg (by simp)]
      rfl
  · have he : mx 0 (wrap64 (mn a 4096 + 1)) = 0 := by
      have h1 : mn a 4096 = a := by unfold mn; rw [if_neg (by omega)]
      have h2 : wrap64 (a + 1) = a + 1 := by unfold wrap64; omega
      rw [h1, h2]
      unfold mx
      rw [if_neg (by omega)]
    refine Ev.step (f := fun k => (curve_Curve.f k l a).bind fun t164 => (if (t164.length : Int) = (mx 0 (wrap64 ((mn a 4096) + 1))) then (if a < 0 then (hutchlaw26_CurveTells.j3 k l t164 ((t164.length : Int) != 0)) else (hutchlaw26_CurveTells.j3 k l t164 false)) else (if a ≥ 0 then (hutchlaw26_CurveTells.j3 k l t164 true) else (if a < 0 then (hutchlaw26_CurveTells.j3 k l t164 ((t164.length : Int) != 0)) else (hutchlaw26_CurveTells.j3 k l t164 false))))) (fun k => ?_) (Ev.bind (curve_neg l a (by omega) (by omega)) ?_)
    · simp only [hutchlaw26_CurveTells.j2]
      rw [if_neg (by simp)]
    · have h3 : (([] : List Int).length : Int) = 0 := rfl
      simp only [he, h3, if_true, if_pos (show a < 0 by omega)]
      refine Ev.step (f := fun k => hutchlaw26_CurveTells.l0 k l [] 0) (fun k => ?_) ?_
      · simp only [hutchlaw26_CurveTells.j3]
        rw [if_neg (by simp)]
      · refine Ev.step (f := fun k => hutchlaw26_CurveTells.j5 k l [] 0 false) (fun k => ?_) ?_
        · simp [hutchlaw26_CurveTells.l0]
        · refine Ev.step (f := fun k => (hutchlaw26_alive.f k).bind fun t => some t) (fun k => ?_) alive2_ev
          simp [hutchlaw26_CurveTells.j5]
theorem tells_j1 (l : List Int) (a : Int) (hb : l.length ≤ 80) (hw : ∀ x ∈ l, (Lit.int .u64 x).wf = true) (ha : -9223372036854775808 ≤ a ∧ a ≤ 9223372036854775807) (g : Int) (hg : g = if 0 ≤ a then (((distOf l).count a : Nat) : Int) else 0) : Ev (fun k => hutchlaw26_CurveTells.j1 k l a ((ltc (distOf l) a : Nat) : Int) g) true := by
  refine Ev.step (f := fun k => (curve_Hits.f k l a).bind fun t162 => (if t162 = ((ltc (distOf l) a : Nat) : Int) then ((curve_Gain.f k l a).bind fun t163 => (hutchlaw26_CurveTells.j2 k l a (t163 != g))) else (hutchlaw26_CurveTells.j2 k l a true))) (fun k => ?_) (Ev.bind (curveHits_ev l a (by omega) hw) ?_)
  · simp only [hutchlaw26_CurveTells.j1]
  · simp only [if_true]
    refine Ev.bind (gain_ev l a (by omega) hw) ?_
    rw [← hg, bne_self_eq_false]
    exact tells_j2 l a hb hw ha
theorem tells_law (l : List Int) (a : Int) (hw : ∀ x ∈ l, (Lit.int .u64 x).wf = true) (ha : -9223372036854775808 ≤ a ∧ a ≤ 9223372036854775807) : Ev (fun k => hutchlaw26_CurveTells.f k l a) true := by
  unfold hutchlaw26_CurveTells.f
  by_cases hb : (l.length : Int) > 80
  · simp only [if_pos hb]
    exact alive2_ev
  · simp only [if_neg hb]
    have hb' : l.length ≤ 80 := by omega
    refine Ev.bind (hits_ev l a (by omega)) ?_
    by_cases h0 : 0 ≤ a
    · simp only [if_pos (show a ≥ 0 from h0)]
      obtain ⟨s, rfl⟩ := Int.eq_ofNat_of_zero_le h0
      by_cases h1 : (s : Int) < 100
      · simp only [decide_eq_true h1]
        have hw1 : wrap64 ((s : Int) + 1) = ((s + 1 : Nat) : Int) := w64_succ s (by omega)
        have hs := ltc_succ s (distOf l)
        have hle := ltc_le (distOf l) ((s + 1 : Nat) : Int)
        rw [distOf_length] at hle
        have hw2 : wrap64 (((ltc (distOf l) ((s + 1 : Nat) : Int) : Nat) : Int) - ((ltc (distOf l) (s : Int) : Nat) : Int)) = (((distOf l).count (s : Int) : Nat) : Int) := by unfold wrap64; omega
        refine Ev.step (f := fun k => (hutchref26_Hits.f k l ((s + 1 : Nat) : Int)).bind fun t161 => (hutchlaw26_CurveTells.j1 k l (s : Int) ((ltc (distOf l) (s : Int) : Nat) : Int) (wrap64 (t161 - ((ltc (distOf l) (s : Int) : Nat) : Int))))) (fun k => ?_) (Ev.bind (hits_ev l _ (by omega)) ?_)
        · simp only [hutchlaw26_CurveTells.j0]
          rw [if_pos trivial, hw1]
        · rw [hw2]
          exact tells_j1 l _ hb' hw ha _ (by rw [if_pos h0])
      · simp only [decide_eq_false h1]
        refine Ev.step (f := fun k => hutchlaw26_CurveTells.j1 k l (s : Int) ((ltc (distOf l) (s : Int) : Nat) : Int) 0) (fun k => ?_) (tells_j1 l _ hb' hw ha 0 ?_)
        · simp only [hutchlaw26_CurveTells.j0]
          rw [if_neg (by simp)]
        · rw [if_pos h0]
          have : (distOf l).count (s : Int) = 0 := List.count_eq_zero.2 fun h => by have := dist_mem l (by omega) _ h; omega
          omega
    · simp only [if_neg (show ¬ a ≥ 0 from h0)]
      refine Ev.step (f := fun k => hutchlaw26_CurveTells.j1 k l a ((ltc (distOf l) a : Nat) : Int) 0) (fun k => ?_) (tells_j1 l _ hb' hw ha 0 (by rw [if_neg h0]))
      simp only [hutchlaw26_CurveTells.j0]
      rw [if_neg (by simp)]
end Go.Proofs.Ytdjbpdahdakfjaa.CurvePure
namespace Go.Proofs.Ytdjbpdahdakfjaa.Pure
open Go.RowKit Go.Proofs.Ytdjbpdahdakfjaa.PCurve Go.Proofs.YtdjbpdahdakfjaaW.PrintWords

theorem CurveTells : hutchlaw26_CurveTells.Pure := by
  intro l a _ hw ha
  have hb : -9223372036854775808 ≤ a ∧ a ≤ 9223372036854775807 := by
    simp [Lit.wf, IntKind.min, IntKind.max, IntKind.signed, IntKind.bits] at ha
    omega
  exact (CurvePure.tells_law l a hw hb).rounds

end Go.Proofs.Ytdjbpdahdakfjaa.Pure
