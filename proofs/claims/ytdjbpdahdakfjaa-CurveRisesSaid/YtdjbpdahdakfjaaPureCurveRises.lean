/- The statement CurveRises over plain values: hits never fall as sizes rise, they end at the length less the unlike keys, and the least size for any hits is found. -/
import Derived.Test.YtdjbpdahdakfjaaPCurvex6
import Derived.Test.YtdjbpdahdakfjaaCurvePure2
namespace Go.Proofs.Ytdjbpdahdakfjaa.CurvePure
open Go.RowKit Go.Proofs.YtdjbpdahdakfjaaH Go.Proofs.Ytdjbpdahdakfjaa.PCurve Go.Proofs.YtdjbpdahdakfjaaW.PrintWords Go.Proofs.YtdjbpdahdakfjaaW.PrintLast Go.Proofs.YtdjbpdahdakfjaaW.PrintMore Go.Proofs.YtdjbpdahdakfjaaW

theorem alive_r : Ev (fun k => hutchlaw26_alive.f k) true := Ev.of hutchlaw26_alive.mono (k := 20) (by decide +kernel)
theorem alive2_r : Ev (fun k => (hutchlaw26_alive.f k).bind fun t => some t) true := Ev.bind alive_r (Ev.now true)
/-- Places without a distance are those at which a key comes first. -/
theorem firsts (l : List Int) (hb : l.length ≤ 1000000) : ∀ i, i ≤ l.length → ∃ V : List Int, V.Nodup ∧ (∀ y, y ∈ V ↔ y ∈ l.take i) ∧ ((distOf l).take i).count (-1) = V.length
  | 0, _ => ⟨[], by simp, by simp, by simp⟩
  | i + 1, hi => by
    obtain ⟨V, h1, h2, h3⟩ := firsts l hb i (by omega)
    have ha : i < l.length := by omega
    have had : i < (distOf l).length := by rw [distOf_length]; exact ha
    have htl : (l.take i).length = i := by rw [List.length_take]; omega
    have hin : l[i] ∈ l.take i ↔ ∃ q, q < i ∧ l.getD q 0 = l.getD i 0 := by
      rw [getD_at l i ha, List.mem_iff_getElem]
      constructor
      · rintro ⟨q, hq, e⟩
        rw [List.getElem_take] at e
        exact ⟨q, by omega, by rw [getD_at l q (by omega)]; exact e⟩
      · rintro ⟨q, hq, e⟩
        exact ⟨q, by omega, by rw [List.getElem_take, ← e, getD_at l q (by omega)]⟩
    rw [List.take_succ_eq_append_getElem had, List.count_append, dist_at, List.take_succ_eq_append_getElem ha]
    rcases (dist_ev l i ha hb).2 with ⟨e, hq⟩ | ⟨U, _, _, e, q, hq1, hq2⟩
    · have hni : l[i] ∉ V := fun h => by
        obtain ⟨q, a, b⟩ := hin.1 ((h2 _).1 h)
        exact hq q a b
      refine ⟨V ++ [l[i]], nodup_put h1 hni, fun y => by rw [List.mem_append, List.mem_append, h2], ?_⟩
      rw [e, List.count_singleton_self, h3, List.length_append]
      rfl
    · have hiV : l[i] ∈ V := (h2 _).2 (hin.2 ⟨q, hq1, hq2⟩)
      refine ⟨V, h1, fun y => ?_, ?_⟩
      · rw [List.mem_append, h2, List.mem_singleton]
        exact ⟨.inl, fun h => h.elim id (fun e => by rw [e]; exact (h2 _).1 hiV)⟩
      · have : List.count (-1 : Int) [distVal l i] = 0 := List.count_eq_zero.2 (fun h => by have := List.mem_singleton.1 h; omega)
        omega
theorem ltc_all (u : Int) (hu : 0 ≤ u) : ∀ D : List Int, (∀ x ∈ D, -1 ≤ x ∧ x < u) → ltc D u + D.count (-1) = D.length
  | [], _ => rfl
  | x :: D, h => by
    have ih := ltc_all u hu D (fun y hy => h y (List.mem_cons_of_mem _ hy))
    have hx := h x List.mem_cons_self
    unfold ltc at ih ⊢
    rw [List.countP_cons, List.count_cons, List.length_cons]
    by_cases e : x = -1
    · subst e
      rw [decide_eq_false (by omega), beq_self_eq_true, if_neg (show ¬ (false = true) by simp), if_pos rfl]
      omega
    · rw [decide_eq_true (by omega), beq_eq_false_iff_ne.2 e, if_pos rfl, if_neg (show ¬ (false = true) by simp)]
      omega
/-- How the curve ends. -/
theorem ends (l : List Int) (hb : l.length ≤ 1000000) : ∃ U : List Int, Ev (fun k => hutchref24_Unlike.f k l) U ∧ U.length ≤ l.length ∧ ltc (distOf l) (U.length : Int) + U.length = l.length ∧ ltc (distOf l) (l.length : Int) = ltc (distOf l) (U.length : Int) := by
  obtain ⟨U, h1, h2, h3⟩ := unlike_ev l hb
  obtain ⟨V, k1, k2, k3⟩ := firsts l hb l.length (Nat.le_refl _)
  rw [List.take_length] at k2
  rw [List.take_of_length_le (by rw [distOf_length]; exact Nat.le_refl _)] at k3
  have hlen := same_len k1 h2 (fun y => (k2 y).trans (h3 y).symm)
  have hU : U.length ≤ l.length := len_le_of_subset U l h2 fun y hy => (h3 y).1 hy
  have hD : ∀ x ∈ distOf l, -1 ≤ x ∧ x < (U.length : Int) := by
    intro x hx
    obtain ⟨i, hi, e⟩ := List.getElem_of_mem hx
    rw [dist_at] at e
    rw [distOf_length] at hi
    have hgi : l.getD i 0 ∈ l := by rw [getD_at l i hi]; exact List.getElem_mem _
    rcases (dist_ev l i hi hb).2 with ⟨h, _⟩ | ⟨W, w1, w2, w3, _⟩
    · have := List.length_pos_of_mem ((h3 _).2 hgi)
      omega
    · have := len_le_of_subset (l.getD i 0 :: W) U (List.nodup_cons.2 ⟨fun h => (w2 _ h).2 rfl, w1⟩) (fun y hy => by
        rcases List.mem_cons.1 hy with rfl | hy
        · exact (h3 _).2 hgi
        · exact (h3 _).2 (w2 y hy).1)
      rw [List.length_cons] at this
      omega
  have s1 := ltc_all (U.length : Int) (by omega) (distOf l) hD
  have s2 := ltc_all (l.length : Int) (by omega) (distOf l) (fun x hx => by have := hD x hx; omega)
  rw [distOf_length] at s1 s2
  exact ⟨U, h1, hU, by omega, by omega⟩
theorem less_is (a b : Int) : cmp_Less_int.f a b = some (decide (a < b)) := by
  unfold cmp_Less_int.f cmp_isNaN_int.f
  simp
theorem mid_is (lo hi : Nat) (h : hi ≤ 1000000) (h2 : lo ≤ hi) : wrap64 ((IntKind.u64.wrap (wrap64 ((lo : Int) + (hi : Int)))) / 2) = (((lo + hi) / 2 : Nat) : Int) := by
  have a1 : wrap64 ((lo : Int) + (hi : Int)) = (lo : Int) + (hi : Int) := by unfold wrap64; omega
  have a2 : ((lo : Int) + (hi : Int)) % 18446744073709551616 = (lo : Int) + (hi : Int) := Int.emod_eq_of_lt (by omega) (by omega)
  rw [a1, IntKind.wrap_u64, a2]
  unfold wrap64
  omega
theorem search_l0 (c : List Int) (t : Int) (hb : c.length ≤ 1000000) (hm : ∀ i j : Nat, i ≤ j → j < c.length → rd c (i : Int) ≤ rd c (j : Int)) (d : Nat) :
    ∀ lo hi : Nat, hi - lo ≤ d → lo ≤ hi → hi ≤ c.length → (∀ j : Nat, j < lo → rd c (j : Int) < t) → (∀ j : Nat, hi ≤ j → j < c.length → t ≤ rd c (j : Int)) →
    ∃ (i : Nat) (b : Bool), Ev (fun k => slices_BinarySearch_int_int.l0 k c t (c.length : Int) (lo : Int) (hi : Int)) ((i : Int), b) ∧ i ≤ c.length ∧ (∀ j : Nat, j < i → rd c (j : Int) < t) ∧ (∀ j : Nat, i ≤ j → j < c.length → t ≤ rd c (j : Int)) := by
  induction d with
  | zero =>
    intro lo hi h1 h2 h3 h4 h5
    obtain rfl : lo = hi := by omega
    by_cases hlt : lo < c.length
    · by_cases he : rd c (lo : Int) = t
      · refine ⟨lo, true, Ev.from 1 fun k => ?_, h3, h4, h5⟩
        simp only [slices_BinarySearch_int_int.l0]
        rw [if_neg (by omega), if_pos (by omega), if_pos (by omega), if_pos (by omega), if_pos he]
      · refine ⟨lo, false, Ev.from 1 fun k => ?_, h3, h4, h5⟩
        simp only [slices_BinarySearch_int_int.l0]
        rw [if_neg (by omega), if_pos (by omega), if_pos (by omega), if_pos (by omega), if_neg he]
        simp [slices_isNaN_int.f]
    · refine ⟨lo, false, Ev.from 1 fun k => ?_, h3, h4, h5⟩
      simp only [slices_BinarySearch_int_int.l0]
      rw [if_neg (by omega), if_neg (by omega)]
  | succ d ih =>
    intro lo hi h1 h2 h3 h4 h5
    by_cases hlh : lo < hi
    · obtain ⟨h, hh⟩ : ∃ h, h = (lo + hi) / 2 := ⟨_, rfl⟩
      have hw : wrap64 ((IntKind.u64.wrap (wrap64 ((lo : Int) + (hi : Int)))) / 2) = (h : Int) := by rw [hh]; exact mid_is lo hi (by omega) h2
      have g1 : h < c.length := by omega
      have g2 : h < hi := by omega
      have g3 : lo ≤ h := by omega
      clear hh
      have hst : ∀ k, slices_BinarySearch_int_int.l0 (k + 1) c t (c.length : Int) (lo : Int) (hi : Int) = if rd c (h : Int) < t then slices_BinarySearch_int_int.l0 k c t (c.length : Int) ((h + 1 : Nat) : Int) (hi : Int) else slices_BinarySearch_int_int.l0 k c t (c.length : Int) (lo : Int) (h : Int) := by
        intro k
        simp only [slices_BinarySearch_int_int.l0]
        rw [if_pos (by omega), hw, if_pos (by omega), if_pos (by omega), less_is, w64_succ h (by omega)]
        simp only [Option.bind_some, decide_eq_true_eq]
      by_cases hc : rd c (h : Int) < t
      · obtain ⟨i, b, e1, e2⟩ := ih (h + 1) hi (by omega) (by omega) h3 (fun j hj => by have := hm j h (by omega) (by omega); omega) h5
        exact ⟨i, b, Ev.step (fun k => by rw [hst, if_pos hc]) e1, e2⟩
      · obtain ⟨i, b, e1, e2⟩ := ih lo h (by omega) (by omega) (by omega) h4 (fun j hj1 hj2 => by have := hm h j hj1 hj2; omega)
        exact ⟨i, b, Ev.step (fun k => by rw [hst, if_neg hc]) e1, e2⟩
    · exact ih lo hi (by omega) h2 h3 h4 h5
theorem rises_j1 (l : List Int) (a : Int) (hb : l.length ≤ 80) (hw : ∀ x ∈ l, (Lit.int .u64 x).wf = true) (u : Nat) (hu : u ≤ l.length) (h1 : ltc (distOf l) (l.length : Int) = ltc (distOf l) (u : Int)) (c : List Int) (hc : c = curveOf (distOf l) (l.length + 1)) :
    Ev (fun k => hutchlaw26_CurveRises.j1 k l a c (u : Int) false) true := by
  have hcl : c.length = l.length + 1 := by rw [hc, curveOf_len]
  have hrd : ∀ t : Nat, t < l.length + 1 → rd c (t : Int) = ((ltc (distOf l) (t : Int) : Nat) : Int) := fun t ht => by rw [hc, curveOf_rd _ _ _ ht]
  have hLo : lenOf (l.length : Int) = l.length + 1 := by unfold lenOf mn; rw [if_neg (by omega)]; omega
  have hmo : ∀ i j : Nat, i ≤ j → j < c.length → rd c (i : Int) ≤ rd c (j : Int) := fun i j hij hj => by
    rw [hrd i (by omega), hrd j (by omega)]
    have := ltc_mono (distOf l) (show (i : Int) ≤ (j : Int) by omega)
    omega
  obtain ⟨i, b, e1, e2, e3, e4⟩ := search_l0 c a (by omega) hmo c.length 0 c.length (by omega) (by omega) (Nat.le_refl _) (fun j hj => by omega) (fun j h1 h2 => by omega)
  have hce := curve_ev l (l.length : Int) (by omega) hw (by omega)
  rw [hLo, ← hc] at hce
  have hle : Ev (fun k => curve_Least.f k l a) (if i = l.length + 1 then (0, false) else ((i : Int), true)) := by
    unfold curve_Least.f
    simp only [if_neg (show ¬ ((l.length : Int) > 4096) by omega)]
    refine Ev.bind hce (Ev.bind (a := ((i : Int), b)) e1 (Ev.plain ?_))
    show (if (i : Int) = (c.length : Int) then some (0, false) else some ((i : Int), true)) = _
    by_cases h : i = l.length + 1
    · rw [if_pos (by omega), if_pos h]
    · rw [if_neg (by omega), if_neg h]
  have hru := hrd u (by omega)
  by_cases hi : i = l.length + 1
  · rw [if_pos hi] at hle
    have hgt := e3 u (by omega)
    refine Ev.step (f := fun k => (curve_Least.f k l a).bind fun bt198 => (if bt198.1 = 0 then (if bt198.2 = true then (some false) else ((hutchlaw26_alive.f k).bind fun t201 => (some t201))) else (some false))) (fun k => ?_) (Ev.bind hle ?_)
    · simp only [hutchlaw26_CurveRises.j1]
      rw [if_neg (by simp)]
      simp only [if_pos (show (0 : Int) ≤ (u : Int) by omega), if_pos (show (u : Int) < (c.length : Int) by omega), if_pos (show a > rd c (u : Int) from hgt)]
    · exact alive2_r
  · rw [if_neg hi] at hle
    have hge : a ≤ rd c (i : Int) := e4 i (Nat.le_refl _) (by omega)
    have hri := hrd i (by omega)
    have hin := ltc_mono (distOf l) (show (i : Int) ≤ (l.length : Int) by omega)
    have hng : ¬ a > rd c (u : Int) := by omega
    refine Ev.step (f := fun k => (curve_Least.f k l a).bind fun bt198 => (if bt198.2 = true then (if bt198.1 ≥ 0 then (if bt198.1 < (c.length : Int) then ((hutchref26_Hits.f k l bt198.1).bind fun t202 => (if t202 ≥ a then (if bt198.1 = 0 then ((hutchlaw26_alive.f k).bind fun t203 => (some t203)) else ((hutchref26_Hits.f k l (wrap64 (bt198.1 - 1))).bind fun t204 => (if t204 < a then ((hutchlaw26_alive.f k).bind fun t205 => (some t205)) else (some false)))) else (some false))) else (some false)) else (some false)) else (some false))) (fun k => ?_) (Ev.bind hle ?_)
    · simp only [hutchlaw26_CurveRises.j1]
      rw [if_neg (by simp)]
      simp only [if_pos (show (0 : Int) ≤ (u : Int) by omega), if_pos (show (u : Int) < (c.length : Int) by omega), if_neg hng]
    · simp only [if_true, if_pos (show ((i : Nat) : Int) ≥ 0 by omega), if_pos (show ((i : Nat) : Int) < (c.length : Int) by omega)]
      refine Ev.bind (hits_ev l (i : Int) (by omega)) ?_
      simp only [if_pos (show ((ltc (distOf l) (i : Int) : Nat) : Int) ≥ a by omega)]
      by_cases h0 : i = 0
      · simp only [if_pos (show ((i : Nat) : Int) = 0 by omega)]
        exact alive2_r
      · simp only [if_neg (show ¬ ((i : Nat) : Int) = 0 by omega)]
        have hw1 : wrap64 ((i : Int) - 1) = ((i - 1 : Nat) : Int) := by unfold wrap64; omega
        have hlt := e3 (i - 1) (by omega)
        rw [hrd (i - 1) (by omega)] at hlt
        rw [hw1]
        refine Ev.bind (hits_ev l _ (by omega)) ?_
        simp only [if_pos hlt]
        exact alive2_r
theorem rises_l0 (l : List Int) (a : Int) (hb : l.length ≤ 80) (hw : ∀ x ∈ l, (Lit.int .u64 x).wf = true) (c : List Int) (hc : c = curveOf (distOf l) (l.length + 1)) (d : Nat) :
    ∀ i : Nat, 1 ≤ i → i ≤ l.length + 1 → l.length + 1 - i = d → Ev (fun k => hutchlaw26_CurveRises.l0 k l a c (i : Int)) true := by
  have hcl : c.length = l.length + 1 := by rw [hc, curveOf_len]
  have hrd : ∀ t : Nat, t < l.length + 1 → rd c (t : Int) = ((ltc (distOf l) (t : Int) : Nat) : Int) := fun t ht => by rw [hc, curveOf_rd _ _ _ ht]
  induction d with
  | zero =>
    intro i h1 h2 h3
    obtain ⟨U, u1, u2, u3, u4⟩ := ends l (by omega)
    have hru := hrd U.length (by omega)
    have hrn := hrd l.length (by omega)
    have hw1 : wrap64 ((l.length : Int) - (U.length : Int)) = (l.length : Int) - (U.length : Int) := by unfold wrap64; omega
    have hw2 : wrap64 ((c.length : Int) - 1) = (l.length : Int) := by unfold wrap64; omega
    refine Ev.step (f := fun k => (hutchref24_Unlike.f k l).bind fun t192 => (if 0 ≤ (t192.length : Int) then (if (t192.length : Int) < (c.length : Int) then (if (rd c (t192.length : Int)) = (wrap64 ((l.length : Int) - (t192.length : Int))) then (hutchlaw26_CurveRises.j1 k l a c (t192.length : Int) ((rd c (l.length : Int)) != (rd c (t192.length : Int)))) else (hutchlaw26_CurveRises.j1 k l a c (t192.length : Int) true)) else (none)) else (none))) (fun k => ?_) (Ev.bind u1 ?_)
    · simp only [hutchlaw26_CurveRises.l0]
      rw [if_neg (by omega), hw2]
      simp only [if_pos (show (0 : Int) ≤ (l.length : Int) by omega), if_pos (show (l.length : Int) < (c.length : Int) by omega)]
    · have he : rd c (U.length : Int) = wrap64 ((l.length : Int) - (U.length : Int)) := by rw [hw1, hru]; omega
      have hn : (rd c (l.length : Int) != rd c (U.length : Int)) = false := by rw [hru, hrn, u4]; simp
      simp only [if_pos (show (0 : Int) ≤ (U.length : Int) by omega), if_pos (show (U.length : Int) < (c.length : Int) by omega), if_pos he, hn]
      exact rises_j1 l a hb hw U.length u2 u4 c hc
  | succ d ih =>
    intro i h1 h2 h3
    have hw1 : wrap64 ((i : Int) - 1) = ((i - 1 : Nat) : Int) := by unfold wrap64; omega
    have hmo := ltc_mono (distOf l) (show ((i - 1 : Nat) : Int) ≤ (i : Int) by omega)
    refine Ev.step (fun k => ?_) (ih (i + 1) (by omega) (by omega) (by omega))
    simp only [hutchlaw26_CurveRises.l0]
    rw [if_pos (by omega), if_pos (by omega), hw1, if_pos (by omega), if_pos (by omega), hrd i (by omega), hrd (i - 1) (by omega), if_neg (by omega), w64_succ i (by omega)]
theorem rises_law (l : List Int) (a : Int) (hw : ∀ x ∈ l, (Lit.int .u64 x).wf = true) : Ev (fun k => hutchlaw26_CurveRises.f k l a) true := by
  unfold hutchlaw26_CurveRises.f
  by_cases hb : (l.length : Int) > 80
  · simp only [if_pos hb]
    exact alive2_r
  · simp only [if_neg hb]
    have hb' : l.length ≤ 80 := by omega
    have hLo : lenOf (l.length : Int) = l.length + 1 := by unfold lenOf mn; rw [if_neg (by omega)]; omega
    have hce := curve_ev l (l.length : Int) (by omega) hw (by omega)
    rw [hLo] at hce
    refine Ev.bind hce ?_
    have hw1 : wrap64 ((l.length : Int) + 1) = ((l.length + 1 : Nat) : Int) := w64_succ _ (by omega)
    simp only [curveOf_len, hw1, if_true]
    exact rises_l0 l a hb' hw _ rfl _ 1 (Nat.le_refl _) (by omega) rfl
end Go.Proofs.Ytdjbpdahdakfjaa.CurvePure
namespace Go.Proofs.Ytdjbpdahdakfjaa.Pure
open Go.RowKit Go.Proofs.Ytdjbpdahdakfjaa.PCurve Go.Proofs.YtdjbpdahdakfjaaW.PrintWords

theorem CurveRises : hutchlaw26_CurveRises.Pure := fun l a _ hw _ => (CurvePure.rises_law l a hw).rounds

end Go.Proofs.Ytdjbpdahdakfjaa.Pure
