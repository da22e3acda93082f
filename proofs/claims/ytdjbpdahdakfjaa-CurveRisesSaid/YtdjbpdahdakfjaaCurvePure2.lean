/- The plain laws of the curve: what the histogram and the curve tell is how many places have a distance below a size. -/
import Derived.Test.YtdjbpdahdakfjaaPCurvex4
import Derived.Test.YtdjbpdahdakfjaaCurvePure
namespace Go.Proofs.Ytdjbpdahdakfjaa.CurvePure
open Go.RowKit Go.Proofs.YtdjbpdahdakfjaaH Go.Proofs.Ytdjbpdahdakfjaa.PCurve Go.Proofs.YtdjbpdahdakfjaaW.PrintWords Go.Proofs.YtdjbpdahdakfjaaW.PrintLast Go.Proofs.YtdjbpdahdakfjaaW.PrintMore Go.Proofs.YtdjbpdahdakfjaaW

/-- How many places have a distance below a size. -/
def ltc (D : List Int) (s : Int) : Nat := D.countP fun x => decide (0 ≤ x ∧ x < s)
theorem ltc_le (D : List Int) (s : Int) : ltc D s ≤ D.length := List.countP_le_length
theorem ltc_succ (s : Nat) : ∀ D : List Int, ltc D ((s + 1 : Nat) : Int) = ltc D (s : Int) + D.count (s : Int)
  | [] => rfl
  | x :: D => by
    have ih := ltc_succ s D
    unfold ltc at ih ⊢
    rw [List.countP_cons, List.countP_cons, List.count_cons, ih]
    by_cases h : x = (s : Int)
    · subst h
      have a1 : decide (0 ≤ (s : Int) ∧ (s : Int) < ((s + 1 : Nat) : Int)) = true := decide_eq_true ⟨by omega, by omega⟩
      have a2 : decide (0 ≤ (s : Int) ∧ (s : Int) < (s : Int)) = false := decide_eq_false (by omega)
      rw [a1, a2, beq_self_eq_true]
      simp
      omega
    · have a1 : decide (0 ≤ x ∧ x < ((s + 1 : Nat) : Int)) = decide (0 ≤ x ∧ x < (s : Int)) := by
        apply decide_eq_decide.2
        omega
      rw [a1, beq_eq_false_iff_ne.2 h]
      simp
      omega
theorem ltc_zero (D : List Int) (s : Int) (hs : s ≤ 0) : ltc D s = 0 := by
  unfold ltc
  rw [List.countP_eq_zero]
  intro x _ h
  have := of_decide_eq_true h
  omega
theorem ltc_mono (D : List Int) {s t : Int} (h : s ≤ t) : ltc D s ≤ ltc D t := by
  unfold ltc
  refine List.countP_mono_left fun x _ hx => ?_
  have := of_decide_eq_true hx
  exact decide_eq_true (by omega)
theorem dist_at (l : List Int) (i : Nat) (h : i < (distOf l).length) : (distOf l)[i] = distVal l i := by simp [distOf]
theorem hits_l0 (l : List Int) (s : Int) (hb : l.length ≤ 1000000) (d : Nat) : ∀ i, i ≤ l.length → l.length - i = d → Ev (fun k => hutchref26_Hits.l0 k l s ((ltc ((distOf l).take i) s : Nat) : Int) (i : Int)) ((ltc (distOf l) s : Nat) : Int) := by
  induction d with
  | zero =>
    intro i hi hd
    obtain rfl : i = l.length := by omega
    refine Ev.from 1 fun k => ?_
    simp only [hutchref26_Hits.l0]
    rw [if_neg (by omega), List.take_of_length_le (by rw [distOf_length]; exact Nat.le_refl _)]
  | succ d ih =>
    intro i hi hd
    have ha : i < l.length := by omega
    have had : i < (distOf l).length := by rw [distOf_length]; exact ha
    have hn := ih (i + 1) (by omega) (by omega)
    have hc := ltc_le ((distOf l).take i) s
    rw [List.length_take] at hc
    have hw : wrap64 (((ltc ((distOf l).take i) s : Nat) : Int) + 1) = ((ltc ((distOf l).take i) s + 1 : Nat) : Int) := w64_succ _ (by omega)
    have hs : ltc ((distOf l).take (i + 1)) s = ltc ((distOf l).take i) s + if 0 ≤ distVal l i ∧ distVal l i < s then 1 else 0 := by
      unfold ltc
      rw [List.take_succ_eq_append_getElem had, List.countP_append, dist_at, List.countP_singleton]
      by_cases h : 0 ≤ distVal l i ∧ distVal l i < s
      · rw [if_pos (decide_eq_true h), if_pos h]
      · rw [if_neg (by simpa using h), if_neg h]
    refine Ev.step (f := fun k => (hutchref25_Distance.f k l (i : Int)).bind fun t115 => (if t115 ≥ 0 then (if t115 < s then (hutchref26_Hits.l0 k l s ((ltc ((distOf l).take i) s + 1 : Nat) : Int) ((i + 1 : Nat) : Int)) else (hutchref26_Hits.l0 k l s ((ltc ((distOf l).take i) s : Nat) : Int) ((i + 1 : Nat) : Int))) else (hutchref26_Hits.l0 k l s ((ltc ((distOf l).take i) s : Nat) : Int) ((i + 1 : Nat) : Int)))) (fun k => ?_) (Ev.bind (dist_ev l i ha hb).1 ?_)
    · simp only [hutchref26_Hits.l0]
      rw [if_pos (by omega), hw, w64_succ i (by omega)]
    · rw [hs] at hn
      generalize distVal l i = v at hn ⊢
      by_cases h1 : v ≥ 0
      · by_cases h2 : v < s
        · rw [if_pos ⟨h1, h2⟩] at hn
          simp only [if_pos h1, if_pos h2]
          exact hn
        · rw [if_neg (by omega)] at hn
          simp only [if_pos h1, if_neg h2]
          exact hn
      · rw [if_neg (by omega)] at hn
        simp only [if_neg h1]
        exact hn
theorem hits_ev (l : List Int) (s : Int) (hb : l.length ≤ 1000000) : Ev (fun k => hutchref26_Hits.f k l s) ((ltc (distOf l) s : Nat) : Int) :=
  hits_l0 l s hb _ 0 (by omega) rfl
/-- What a distance may be. -/
theorem dist_range (l : List Int) (i : Nat) (hi : i < l.length) (hb : l.length ≤ 1000000) : -1 ≤ distVal l i ∧ distVal l i < l.length := by
  rcases (dist_ev l i hi hb).2 with ⟨h, _⟩ | ⟨U, h1, h2, h3, _⟩
  · omega
  · have := len_le_of_subset (l.getD i 0 :: U) l (List.nodup_cons.2 ⟨fun h => (h2 _ h).2 rfl, h1⟩) (fun y hy => by
      rcases List.mem_cons.1 hy with rfl | hy
      · rw [getD_at l i hi]; exact List.getElem_mem _
      · exact (h2 y hy).1)
    rw [List.length_cons] at this
    omega
theorem dist_mem (l : List Int) (hb : l.length ≤ 1000000) : ∀ x ∈ distOf l, -1 ≤ x ∧ x < l.length := by
  intro x hx
  obtain ⟨i, hi, e⟩ := List.getElem_of_mem hx
  rw [dist_at] at e
  rw [distOf_length] at hi
  rw [← e]
  exact dist_range l i hi hb
theorem fold_mx (r : List Int) : ∀ x : Int, x ≤ r.foldl (fun a b => if a < b then b else a) x ∧ (∀ y ∈ r, y ≤ r.foldl (fun a b => if a < b then b else a) x) ∧ (r.foldl (fun a b => if a < b then b else a) x = x ∨ r.foldl (fun a b => if a < b then b else a) x ∈ r) := by
  induction r with
  | nil => intro x; exact ⟨Int.le_refl _, by simp, .inl rfl⟩
  | cons z r ih =>
    intro x
    rw [List.foldl_cons]
    obtain ⟨h1, h2, h3⟩ := ih (if x < z then z else x)
    have ha : x ≤ (if x < z then z else x) ∧ z ≤ (if x < z then z else x) ∧ ((if x < z then z else x) = x ∨ (if x < z then z else x) = z) := by split <;> omega
    generalize (if x < z then z else x) = t at h1 h2 h3 ha
    refine ⟨by omega, fun y hy => ?_, ?_⟩
    · rcases List.mem_cons.1 hy with rfl | hy
      · omega
      · exact h2 y hy
    · rcases h3 with h3 | h3
      · rcases ha.2.2 with e | e
        · exact .inl (h3.trans e)
        · exact .inr (by rw [h3, e]; exact List.mem_cons_self)
      · exact .inr (List.mem_cons_of_mem _ h3)
theorem mx_spec (D : List Int) (h : D ≠ []) : mxOf D ∈ D ∧ ∀ x ∈ D, x ≤ mxOf D := by
  cases D with
  | nil => exact absurd rfl h
  | cons x r =>
    obtain ⟨h1, h2, h3⟩ := fold_mx r x
    refine ⟨?_, fun y hy => ?_⟩
    · rcases h3 with h3 | h3
      · show List.foldl _ _ _ ∈ _
        rw [h3]
        exact List.mem_cons_self
      · exact List.mem_cons_of_mem _ h3
    · rcases List.mem_cons.1 hy with rfl | hy
      · exact h1
      · exact h2 y hy
theorem set_range (L : Nat) (f g : Nat → Int) (s : Nat) (v : Int) (h1 : ∀ t, t ≠ s → f t = g t) (h2 : g s = v) : ((List.range L).map f).set s v = (List.range L).map g := by
  apply List.ext_getElem
  · simp
  · intro t h3 h4
    rw [List.getElem_set]
    by_cases h : s = t
    · subst h
      rw [if_pos rfl]
      simp [h2]
    · rw [if_neg h]
      simp
      exact h1 t (fun e => h e.symm)
theorem rd_map (L : Nat) (f : Nat → Int) (s : Nat) (h : s < L) : rd ((List.range L).map f) (s : Int) = f s := by
  rw [rd_at _ s (by simp; exact h)]
  simp
def nearTo (D : List Int) (L i : Nat) : List Int := (List.range L).map fun d : Nat => (((D.take i).count (d : Int) : Nat) : Int)
theorem hist_l0 (D : List Int) (L : Nat) (hb : D.length ≤ 1000000) (hD : ∀ x ∈ D, -1 ≤ x ∧ x < (L : Int)) (d : Nat) : ∀ i, i ≤ D.length → D.length - i = d → ∀ wo : Int, ∃ w1 : Int, Ev (fun k => reuse_Histogram.l0 k (nearTo D L i) wo D (D.length : Int) (i : Int)) (nearTo D L D.length, w1) := by
  induction d with
  | zero =>
    intro i hi hd wo
    obtain rfl : i = D.length := by omega
    refine ⟨wo, Ev.from 1 fun k => ?_⟩
    simp only [reuse_Histogram.l0]
    rw [if_neg (by omega)]
  | succ d ih =>
    intro i hi hd wo
    have ha : i < D.length := by omega
    have hx := hD D[i] (List.getElem_mem _)
    have htk : D.take (i + 1) = D.take i ++ [D[i]] := List.take_succ_eq_append_getElem ha
    have hst : ∀ k, reuse_Histogram.l0 (k + 1) (nearTo D L i) wo D (D.length : Int) (i : Int) = if D[i] = -1 then reuse_Histogram.l0 k (nearTo D L i) (wrap64 (wo + 1)) D (D.length : Int) ((i + 1 : Nat) : Int) else (if 0 ≤ D[i] then (if D[i] < ((nearTo D L i).length : Int) then reuse_Histogram.l0 k ((nearTo D L i).set (D[i] : Int).toNat (wrap64 (rd (nearTo D L i) D[i] + 1))) wo D (D.length : Int) ((i + 1 : Nat) : Int) else none) else none) := by
      intro k
      simp only [reuse_Histogram.l0]
      rw [if_pos (by omega), if_pos (by omega), if_pos (by omega), rd_at D i ha, w64_succ i (by omega)]
    by_cases hm : D[i] = -1
    · have he : nearTo D L (i + 1) = nearTo D L i := by
        unfold nearTo
        refine List.map_congr_left fun t _ => ?_
        rw [htk, List.count_append, hm]
        have : List.count (t : Int) [(-1 : Int)] = 0 := List.count_eq_zero.2 (fun h => by have := List.mem_singleton.1 h; omega)
        omega
      obtain ⟨w1, h1⟩ := ih (i + 1) (by omega) (by omega) (wrap64 (wo + 1))
      rw [he] at h1
      exact ⟨w1, Ev.step (fun k => by rw [hst, if_pos hm]) h1⟩
    · obtain ⟨y, hy⟩ := Int.eq_ofNat_of_zero_le (show 0 ≤ D[i] by omega)
      have hyL : y < L := by omega
      have hcl : (D.take i).count (y : Int) ≤ D.length := Nat.le_trans List.count_le_length (by rw [List.length_take]; omega)
      have he : (nearTo D L i).set y (wrap64 (rd (nearTo D L i) (y : Int) + 1)) = nearTo D L (i + 1) := by
        unfold nearTo
        rw [rd_map L _ y hyL, w64_succ _ (by omega)]
        refine set_range L _ _ y _ (fun t ht => ?_) ?_
        · rw [htk, List.count_append, hy]
          have : List.count (t : Int) [(y : Int)] = 0 := List.count_eq_zero.2 (fun h => by have := List.mem_singleton.1 h; omega)
          omega
        · rw [htk, List.count_append, hy, List.count_singleton_self]
      obtain ⟨w1, h1⟩ := ih (i + 1) (by omega) (by omega) wo
      have hll : (nearTo D L i).length = L := by simp [nearTo]
      refine ⟨w1, Ev.step (fun k => ?_) h1⟩
      rw [hst, if_neg hm, if_pos (by omega), if_pos (by rw [hll]; omega), hy, Int.toNat_natCast, he]
/-- What the histogram tells. -/
theorem hist_ev (l : List Int) (hb : l.length ≤ 4096) (hw : ∀ x ∈ l, (Lit.int .u64 x).wf = true) : ∃ (near : List Int) (wo : Int), Ev (fun k => reuse_Histogram.f k l) (near, wo) ∧ near.length ≤ l.length ∧ (∀ d : Nat, d < near.length → rd near (d : Int) = (((distOf l).count (d : Int) : Nat) : Int)) ∧ ∀ d : Nat, near.length ≤ d → (distOf l).count (d : Int) = 0 := by
  have hdf : reuse_Distances.f l = some (distOf l) := by unfold reuse_Distances.f; rw [if_pos ⟨hb, hw⟩]
  have hlen := distOf_length l
  have hmem := dist_mem l (by omega)
  generalize distOf l = D at hdf hlen hmem ⊢
  by_cases he : D = []
  · subst he
    refine ⟨[], 0, Ev.congr (fun k => ?_) (Ev.now _), Nat.zero_le _, fun d hd => by simp at hd, fun d _ => by simp⟩
    unfold reuse_Histogram.f
    rw [hdf]
    simp
  · obtain ⟨hm1, hm2⟩ := mx_spec D he
    have hm3 := hmem _ hm1
    have hpos := List.length_pos_iff.2 he
    obtain ⟨L, hL⟩ : ∃ L : Nat, (L : Int) = mxOf D + 1 := ⟨(mxOf D + 1).toNat, by omega⟩
    obtain ⟨w1, h1⟩ := hist_l0 D L (by omega) (fun x hx => ⟨(hmem x hx).1, by have := hm2 x hx; omega⟩) _ 0 (by omega) rfl 0
    have hz : nearTo D L 0 = List.replicate L 0 := by
      unfold nearTo
      apply List.ext_getElem
      · simp
      · intro t a b; simp
    rw [hz] at h1
    have hw1 : wrap64 (mxOf D + 1) = (L : Int) := by unfold wrap64; omega
    have hnl : (nearTo D L D.length).length = L := by simp [nearTo]
    refine ⟨nearTo D L D.length, w1, Ev.congr (fun k => ?_) h1, by rw [hnl]; omega, fun d hd => ?_, fun d hd => ?_⟩
    · unfold reuse_Histogram.f slices_Max_int_int.f
      rw [hdf]
      simp only [Option.bind_some, if_neg he]
      rw [if_neg (by omega), hw1, if_pos (by omega), if_pos (by omega), Int.toNat_natCast]
      rfl
    · rw [hnl] at hd
      unfold nearTo
      rw [rd_map L _ d hd, List.take_length]
    · rw [hnl] at hd
      refine List.count_eq_zero.2 fun h => ?_
      have := hm2 _ h
      omega
/-! The curve. -/
def curveTo (D : List Int) (L s : Nat) : List Int := (List.range L).map fun t : Nat => if t < s then ((ltc D (t : Int) : Nat) : Int) else 0
def curveOf (D : List Int) (L : Nat) : List Int := (List.range L).map fun t : Nat => ((ltc D (t : Int) : Nat) : Int)
theorem curveOf_len (D : List Int) (L : Nat) : (curveOf D L).length = L := by simp [curveOf]
theorem curveOf_rd (D : List Int) (L t : Nat) (h : t < L) : rd (curveOf D L) (t : Int) = ((ltc D (t : Int) : Nat) : Int) := rd_map L _ t h
theorem curve_l0 (D near : List Int) (L : Nat) (hL : L ≤ 4097) (hD : D.length ≤ 4096) (hn1 : ∀ d : Nat, d < near.length → rd near (d : Int) = ((D.count (d : Int) : Nat) : Int)) (hn2 : ∀ d : Nat, near.length ≤ d → D.count (d : Int) = 0) (hnl : near.length ≤ 4096) (d : Nat) :
    ∀ s, 1 ≤ s → s ≤ L → L - s = d → Ev (fun k => curve_Curve.l0 k near (curveTo D L s) (s : Int)) (curveOf D L) := by
  induction d with
  | zero =>
    intro s h1 h2 h3
    obtain rfl : s = L := by omega
    have he : curveTo D s s = curveOf D s := by
      unfold curveTo curveOf
      refine List.map_congr_left fun t ht => ?_
      rw [if_pos (List.mem_range.1 ht)]
    have hl : (curveTo D s s).length = s := by simp [curveTo]
    refine Ev.from 1 fun k => ?_
    simp only [curve_Curve.l0]
    rw [if_neg (by omega), he]
  | succ d ih =>
    intro s h1 h2 h3
    obtain ⟨m, rfl⟩ : ∃ m, s = m + 1 := ⟨s - 1, by omega⟩
    have hs : m + 1 < L := by omega
    have hl : (curveTo D L (m + 1)).length = L := by simp [curveTo]
    have hw : wrap64 (((m + 1 : Nat) : Int) - 1) = (m : Int) := by unfold wrap64; omega
    have hw2 : wrap64 (((m + 1 : Nat) : Int) + 1) = ((m + 1 + 1 : Nat) : Int) := w64_succ _ (by omega)
    have hrd : rd (curveTo D L (m + 1)) (m : Int) = ((ltc D (m : Int) : Nat) : Int) := by
      unfold curveTo
      rw [rd_map L _ m (by omega), if_pos (by omega)]
    have hc := ltc_succ m D
    have hcl := ltc_le D ((m + 1 : Nat) : Int)
    obtain ⟨Y, hY⟩ : ∃ Y, Y = (curveTo D L (m + 1)).set (m + 1) ((ltc D (m : Int) : Nat) : Int) := ⟨_, rfl⟩
    have hYr : rd Y ((m + 1 : Nat) : Int) = ((ltc D (m : Int) : Nat) : Int) := by
      rw [hY, rd_at _ _ (by rw [List.length_set, hl]; exact hs), List.getElem_set_self]
    have hnext : ∀ v : Int, v = ((ltc D ((m + 1 : Nat) : Int) : Nat) : Int) → (curveTo D L (m + 1)).set (m + 1) v = curveTo D L (m + 1 + 1) := by
      intro v hv
      unfold curveTo
      refine set_range L _ _ (m + 1) v (fun t ht => ?_) (by rw [if_pos (by omega)]; exact hv.symm)
      by_cases h : t < m + 1
      · rw [if_pos h, if_pos (by omega)]
      · rw [if_neg h, if_neg (by omega)]
    have hst : ∀ k, curve_Curve.l0 (k + 1) near (curveTo D L (m + 1)) ((m + 1 : Nat) : Int) = if ((m + 1 : Nat) : Int) ≤ (near.length : Int) then (if (m : Int) < (near.length : Int) then curve_Curve.l0 k near (Y.set (m + 1) (wrap64 (rd Y ((m + 1 : Nat) : Int) + rd near (m : Int)))) ((m + 1 + 1 : Nat) : Int) else none) else curve_Curve.l0 k near Y ((m + 1 + 1 : Nat) : Int) := by
      intro k
      simp only [curve_Curve.l0]
      rw [hl, hw, hw2, hrd, Int.toNat_natCast, if_pos (by omega), if_pos (by omega), if_pos (by omega), if_pos (by omega), Option.bind_some, ← hY]
    have hI := ih (m + 1 + 1) (by omega) (by omega) (by omega)
    by_cases hnm : m < near.length
    · have hv : wrap64 (rd Y ((m + 1 : Nat) : Int) + rd near (m : Int)) = ((ltc D ((m + 1 : Nat) : Int) : Nat) : Int) := by
        rw [hYr, hn1 m hnm]
        unfold wrap64
        omega
      refine Ev.step (fun k => ?_) hI
      rw [hst, if_pos (by omega), if_pos (by omega), hv, hY, List.set_set, hnext _ rfl]
    · have hc0 := hn2 m (by omega)
      refine Ev.step (fun k => ?_) hI
      rw [hst, if_neg (by omega), hY, hnext _ (by rw [hc, hc0, Nat.add_zero])]
theorem curve_neg (l : List Int) (a : Int) (hb : l.length ≤ 4096) (ha : a < 0) : Ev (fun k => curve_Curve.f k l a) [] := by
  refine Ev.from 1 fun k => ?_
  unfold curve_Curve.f
  rw [if_neg (by omega), decide_eq_true ha]
  simp [curve_Curve.j0]
/-- How long the curve is. -/
def lenOf (a : Int) : Nat := (mn a 4096).toNat + 1
theorem curve_ev (l : List Int) (a : Int) (hb : l.length ≤ 4096) (hw : ∀ x ∈ l, (Lit.int .u64 x).wf = true) (ha : 0 ≤ a) : Ev (fun k => curve_Curve.f k l a) (curveOf (distOf l) (lenOf a)) := by
  obtain ⟨near, wo, h1, h2, h3, h4⟩ := hist_ev l hb hw
  have hm : 0 ≤ mn a 4096 ∧ mn a 4096 ≤ 4096 := by unfold mn; split <;> omega
  obtain ⟨L, hL⟩ : ∃ L, L = lenOf a := ⟨_, rfl⟩
  have hL1 : (L : Int) = mn a 4096 + 1 := by rw [hL]; unfold lenOf; omega
  have hw1 : wrap64 (mn a 4096 + 1) = (L : Int) := by unfold wrap64; omega
  rw [← hL]
  have h0 : curveTo (distOf l) L 1 = List.replicate L 0 := by
    unfold curveTo
    apply List.ext_getElem
    · simp
    · intro t a b
      simp
      intro h
      rw [h]
      exact ltc_zero _ _ (by omega)
  have hc := curve_l0 (distOf l) near L (by omega) (by rw [distOf_length]; exact hb) h3 h4 (by omega) _ 1 (Nat.le_refl _) (by omega) rfl
  rw [h0] at hc
  refine Ev.step (g := fun k => curve_Curve.f k l a) (f := fun k => (reuse_Histogram.f k l).bind fun bt126 => (curve_Curve.l0 k bt126.1 (List.replicate L 0) ((1 : Nat) : Int))) (fun k => ?_) (Ev.bind h1 hc)
  unfold curve_Curve.f
  rw [if_neg (by omega), decide_eq_false (by omega)]
  simp only [curve_Curve.j0]
  rw [if_neg (by simp), hw1, Int.toNat_natCast]
  simp only [if_pos (show (0 : Int) ≤ (L : Int) by omega), if_pos (show L ≤ 35184372088832 by omega)]
  rfl
theorem ltc_end (l : List Int) (hb : l.length ≤ 1000000) {s t : Int} (hs : (l.length : Int) ≤ s) (ht : (l.length : Int) ≤ t) : ltc (distOf l) s = ltc (distOf l) t := by
  unfold ltc
  apply List.countP_congr
  intro x hx
  have := dist_mem l hb x hx
  simp only [decide_eq_true_eq]
  omega
theorem curveHits_ev (l : List Int) (a : Int) (hb : l.length ≤ 4096) (hw : ∀ x ∈ l, (Lit.int .u64 x).wf = true) : Ev (fun k => curve_Hits.f k l a) ((ltc (distOf l) a : Nat) : Int) := by
  by_cases ha : 0 ≤ a
  · have hm : (lenOf a : Int) = mn a 4096 + 1 ∧ (0 ≤ mn a 4096 ∧ mn a 4096 ≤ 4096) ∧ (mn a 4096 = a ∨ (mn a 4096 = 4096 ∧ 4096 ≤ a)) := by unfold lenOf mn; split <;> omega
    have hlt : ltc (distOf l) ((lenOf a - 1 : Nat) : Int) = ltc (distOf l) a := by
      rcases hm.2.2 with h | ⟨h, h'⟩
      · congr 1; omega
      · exact ltc_end l (by omega) (by omega) (by omega)
    unfold curve_Hits.f
    refine Ev.bind (curve_ev l a hb hw ha) ?_
    have hll := curveOf_len (distOf l) (lenOf a)
    have hw1 : wrap64 (((lenOf a : Nat) : Int) - 1) = ((lenOf a - 1 : Nat) : Int) := by unfold wrap64; omega
    refine Ev.plain ?_
    rw [hll, if_neg (by omega), hw1, if_pos (by omega), if_pos (by omega), curveOf_rd _ _ _ (by omega), hlt]
  · unfold curve_Hits.f
    refine Ev.bind (curve_neg l a hb (by omega)) ?_
    rw [ltc_zero _ _ (by omega)]
    exact Ev.plain (by simp)
theorem gain_ev (l : List Int) (a : Int) (hb : l.length ≤ 4096) (hw : ∀ x ∈ l, (Lit.int .u64 x).wf = true) : Ev (fun k => curve_Gain.f k l a) (if 0 ≤ a then (((distOf l).count a : Nat) : Int) else 0) := by
  obtain ⟨near, wo, h1, h2, h3, h4⟩ := hist_ev l hb hw
  unfold curve_Gain.f
  refine Ev.bind h1 (Ev.plain ?_)
  by_cases ha : 0 ≤ a
  · obtain ⟨s, rfl⟩ := Int.eq_ofNat_of_zero_le ha
    show (if (s : Int) < 0 then some 0 else if (s : Int) ≥ (near.length : Int) then some 0 else if 0 ≤ (s : Int) then if (s : Int) < (near.length : Int) then some (rd near (s : Int)) else none else none) = _
    rw [if_neg (by omega), if_pos ha]
    by_cases hs : s < near.length
    · rw [if_neg (by omega), if_pos (by omega), if_pos (by omega), h3 s hs]
    · rw [if_pos (by omega), h4 s (by omega)]
      rfl
  · rw [if_pos (by omega), if_neg ha]
end Go.Proofs.Ytdjbpdahdakfjaa.CurvePure
