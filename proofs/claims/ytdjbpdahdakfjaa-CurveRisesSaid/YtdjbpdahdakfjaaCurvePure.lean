/- The plain laws of the curve: a place's distance is how many unlike keys lie between; how many places have which. -/
import Derived.Test.YtdjbpdahdakfjaaPCurvex3
import Derived.Test.YtdjbpdahdakfjaaHPlay
namespace Go.Proofs.Ytdjbpdahdakfjaa.CurvePure
open Go.RowKit Go.Proofs.YtdjbpdahdakfjaaH Go.Proofs.Ytdjbpdahdakfjaa.PCurve Go.Proofs.YtdjbpdahdakfjaaW.PrintWords Go.Proofs.YtdjbpdahdakfjaaW.PrintLast Go.Proofs.YtdjbpdahdakfjaaW

theorem rd_at (l : List Int) (i : Nat) (h : i < l.length) : rd l (i : Int) = l[i] := by simp [rd, List.getD_eq_getElem?_getD, List.getElem?_eq_getElem h]

/-- Where a key was last, in words. -/
theorem lastIn_spec (d : Nat) : ∀ (l : List Int), l.length = d → ∀ x : Int,
    (lastIn l x = none ∧ x ∉ l) ∨ ∃ p : Nat, lastIn l x = some (p : Int) ∧ ∃ h : p < l.length, l[p] = x ∧ ∀ q, p < q → (hq : q < l.length) → l[q] ≠ x := by
  induction d with
  | zero => intro l hl x; obtain rfl := List.eq_nil_of_length_eq_zero hl; exact .inl ⟨rfl, by simp⟩
  | succ d ih =>
    intro l hl x
    have hne : l ≠ [] := by intro e; rw [e] at hl; simp at hl
    have e := List.dropLast_concat_getLast hne
    generalize l.getLast hne = y at e
    have hdl : l.dropLast.length = d := by simp; omega
    generalize l.dropLast = q at e hdl
    subst e
    rw [lastIn_snoc]
    by_cases hxy : x = y
    · subst hxy
      rw [if_pos rfl]
      refine .inr ⟨q.length, rfl, by simp, by simp, fun r h1 h2 => ?_⟩
      simp at h2
      omega
    · rw [if_neg hxy]
      rcases ih q hdl x with ⟨h1, h2⟩ | ⟨p, h1, h2, h3, h4⟩
      · exact .inl ⟨h1, by simp [h2]; exact hxy⟩
      · refine .inr ⟨p, h1, by simp; omega, by rw [List.getElem_append_left h2]; exact h3, fun r h5 h6 => ?_⟩
        by_cases hr : r < q.length
        · rw [List.getElem_append_left hr]; exact h4 r h5 hr
        · simp at h6
          have : r = q.length := by omega
          subst this
          rw [List.getElem_append_right (Nat.le_refl _)]
          simp
          exact fun h => hxy h.symm
theorem Ev.from {α : Type} {g : Nat → Option α} {r : α} (n : Nat) (h : ∀ k, g (k + n) = some r) : Ev g r :=
  ⟨n, fun k hk => by obtain ⟨m, rfl⟩ : ∃ m, k = m + n := ⟨k - n, by omega⟩; exact h m⟩
theorem Ev.plain {α : Type} {g : Option α} {r : α} (h : g = some r) : Ev (fun _ => g) r := ⟨0, fun _ _ => h⟩
theorem w64_succ (i : Nat) (h : i ≤ 1000000) : wrap64 ((i : Int) + 1) = ((i + 1 : Nat) : Int) := by unfold wrap64; omega
theorem has_l0 (l : List Int) (x : Int) (hb : l.length ≤ 1000000) (d : Nat) : ∀ i : Nat, i ≤ l.length → l.length - i = d → Ev (fun k => hutchref12_Has.l0 k l x (i : Int)) (decide (x ∈ l.drop i)) := by
  induction d with
  | zero =>
    intro i hi hd
    refine Ev.from 1 fun k => ?_
    simp only [hutchref12_Has.l0]
    rw [if_neg (by omega), List.drop_of_length_le (by omega)]
    simp
  | succ d ih =>
    intro i hi hd
    have ha : i < l.length := by omega
    rw [List.drop_eq_getElem_cons ha]
    have step : ∀ k, hutchref12_Has.l0 (k + 1) l x (i : Int) = if l[i] = x then some true else hutchref12_Has.l0 k l x ((i + 1 : Nat) : Int) := by
      intro k
      simp only [hutchref12_Has.l0]
      rw [if_pos (by omega), if_pos (by omega), rd_at l i ha, w64_succ i (by omega)]
    by_cases e : l[i] = x
    · refine Ev.from 1 fun k => ?_
      rw [step, if_pos e, decide_eq_true (List.mem_cons.2 (.inl e.symm))]
    · refine Ev.step (fun k => by rw [step, if_neg e]) ?_
      have : (x ∈ l[i] :: l.drop (i + 1)) ↔ x ∈ l.drop (i + 1) := by
        rw [List.mem_cons]
        exact ⟨fun h => h.resolve_left (fun h => e h.symm), .inr⟩
      rw [decide_eq_decide.2 this]
      exact ih (i + 1) (by omega) (by omega)
theorem has_ev (l : List Int) (x : Int) (hb : l.length ≤ 1000000) : Ev (fun k => hutchref12_Has.f k l x) (decide (x ∈ l)) := by
  have := has_l0 l x hb _ 0 (by omega) rfl
  simpa [hutchref12_Has.f] using this
theorem same_len {A U : List Int} (hA : A.Nodup) (hU : U.Nodup) (h : ∀ y, y ∈ A ↔ y ∈ U) : A.length = U.length :=
  Nat.le_antisymm (len_le_of_subset A U hA fun x hx => (h x).1 hx) (len_le_of_subset U A hU fun x hx => (h x).2 hx)

/-! The document's words. -/
theorem unlike_l0 (l : List Int) (hb : l.length ≤ 1000000) (d : Nat) : ∀ (i : Nat) (u : List Int), i ≤ l.length → l.length - i = d → u.Nodup → (∀ y, y ∈ u ↔ y ∈ l.take i) → ∃ U : List Int, Ev (fun k => hutchref24_Unlike.l0 k l u (i : Int)) U ∧ U.Nodup ∧ ∀ y, y ∈ U ↔ y ∈ l := by
  induction d with
  | zero =>
    intro i u hi hd h1 h2
    rw [List.take_of_length_le (by omega)] at h2
    refine ⟨u, Ev.from 1 fun k => ?_, h1, h2⟩
    simp only [hutchref24_Unlike.l0]
    rw [if_neg (by omega)]
  | succ d ih =>
    intro i u hi hd h1 h2
    have ha : i < l.length := by omega
    have hul : u.length ≤ l.length := len_le_of_subset u l h1 fun x hx => List.mem_of_mem_take ((h2 x).1 hx)
    have hstep : ∀ r, Ev (fun k => if decide (l[i] ∈ u) = true then hutchref24_Unlike.l0 k l u ((i + 1 : Nat) : Int) else hutchref24_Unlike.l0 k l (u ++ [l[i]]) ((i + 1 : Nat) : Int)) r → Ev (fun k => hutchref24_Unlike.l0 k l u (i : Int)) r := by
      intro r hr
      refine Ev.step (f := fun k => (hutchref12_Has.f k u l[i]).bind fun t => if t = true then hutchref24_Unlike.l0 k l u ((i + 1 : Nat) : Int) else if u.length < 17592186044416 then hutchref24_Unlike.l0 k l (u ++ [l[i]]) ((i + 1 : Nat) : Int) else none) (fun k => ?_) (Ev.bind (has_ev u l[i] (by omega)) ?_)
      · simp only [hutchref24_Unlike.l0]
        rw [if_pos (by omega), if_pos (by omega), w64_succ i (by omega), rd_at l i ha]
      · simp only [if_pos (show u.length < 17592186044416 by omega)]
        exact hr
    by_cases hm : l[i] ∈ u
    · obtain ⟨U, hU, h3, h4⟩ := ih (i + 1) u (by omega) (by omega) h1 (fun y => by
        rw [List.take_succ_eq_append_getElem ha, List.mem_append, List.mem_singleton, h2]
        exact ⟨.inl, fun h => h.elim id (fun e => by rw [e]; exact (h2 _).1 hm)⟩)
      exact ⟨U, hstep _ (by simp only [decide_eq_true hm, if_true]; exact hU), h3, h4⟩
    · obtain ⟨U, hU, h3, h4⟩ := ih (i + 1) (u ++ [l[i]]) (by omega) (by omega) (nodup_put h1 hm) (fun y => by
        rw [List.take_succ_eq_append_getElem ha, List.mem_append, List.mem_append, h2])
      exact ⟨U, hstep _ (by simp only [decide_eq_false hm, Bool.false_eq_true, if_false]; exact hU), h3, h4⟩
theorem unlike_ev (l : List Int) (hb : l.length ≤ 1000000) : ∃ U : List Int, Ev (fun k => hutchref24_Unlike.f k l) U ∧ U.Nodup ∧ ∀ y, y ∈ U ↔ y ∈ l :=
  unlike_l0 l hb _ 0 [] (by omega) rfl (by simp) (by simp)
theorem last_l0 (l : List Int) (i : Nat) (hi : i < l.length) (hb : l.length ≤ 1000000) : ∀ j : Nat, j ≤ i →
    ((∀ q, q < j → (hq : q < l.length) → l[q] ≠ l[i]) → Ev (fun k => hutchref25_Last.l0 k l (i : Int) ((j : Int) - 1)) (-1)) ∧
    (∀ p, p < j → (hp : p < l.length) → l[p] = l[i] → (∀ q, p < q → q < j → (hq : q < l.length) → l[q] ≠ l[i]) → Ev (fun k => hutchref25_Last.l0 k l (i : Int) ((j : Int) - 1)) (p : Int)) := by
  intro j
  induction j with
  | zero =>
    intro _
    refine ⟨fun _ => Ev.from 1 fun k => ?_, fun p hp => by omega⟩
    simp only [hutchref25_Last.l0]
    rw [if_neg (by omega)]
  | succ j ih =>
    intro hj
    obtain ⟨g1, g2⟩ := ih (by omega)
    have hjl : j < l.length := by omega
    have step : ∀ k, hutchref25_Last.l0 (k + 1) l (i : Int) (((j + 1 : Nat) : Int) - 1) = if l[j] = l[i] then some (j : Int) else hutchref25_Last.l0 k l (i : Int) ((j : Int) - 1) := by
      intro k
      have e : ((j + 1 : Nat) : Int) - 1 = (j : Int) := by omega
      have e2 : wrap64 ((j : Int) - 1) = (j : Int) - 1 := by unfold wrap64; omega
      simp only [hutchref25_Last.l0, e]
      rw [if_pos (by omega), if_pos (by omega), if_pos (by omega), if_pos (by omega), if_pos (by omega), rd_at l j hjl, rd_at l i hi, e2]
    refine ⟨fun h => Ev.step (fun k => by rw [step, if_neg (h j (by omega) hjl)]) (g1 fun q hq hql => h q (by omega) hql), fun p hp hpl h1 h2 => ?_⟩
    by_cases hpj : p = j
    · subst hpj
      exact Ev.from 1 fun k => by rw [step, if_pos h1]
    · exact Ev.step (fun k => by rw [step, if_neg (h2 j (by omega) (by omega) hjl)]) (g2 p (by omega) hpl h1 fun q a b c => h2 q a (by omega) c)

/-! Marks: the last place, so far, of each key. -/
def Mrk (l : List Int) (i j : Nat) : Prop := j < i ∧ ∀ q, j < q → q < i → l.getD q 0 ≠ l.getD j 0
theorem getD_at (l : List Int) (i : Nat) (h : i < l.length) : l.getD i 0 = l[i] := by simp [List.getD_eq_getElem?_getD, List.getElem?_eq_getElem h]
/-- The last place of a place's key, as reuse.Last tells it. -/
theorem was_spec (l : List Int) (i : Nat) (hi : i < l.length) :
    (rd (lastOf l) (i : Int) = -1 ∧ ∀ q, q < i → l.getD q 0 ≠ l.getD i 0) ∨
    ∃ p : Nat, rd (lastOf l) (i : Int) = (p : Int) ∧ p < i ∧ l.getD p 0 = l.getD i 0 ∧ ∀ q, p < q → q < i → l.getD q 0 ≠ l.getD i 0 := by
  have htl : (l.take i).length = i := by rw [List.length_take]; omega
  rw [distLast_at l i hi]
  have hg : ∀ q, q < i → ∀ h : q < (l.take i).length, (l.take i)[q] = l.getD q 0 := fun q hq h => by rw [List.getElem_take, getD_at l q (by omega)]
  rcases lastIn_spec _ (l.take i) rfl (l.getD i 0) with ⟨h1, h2⟩ | ⟨p, h1, h2, h3, h4⟩
  · refine .inl ⟨by rw [h1]; rfl, fun q hq e => h2 ?_⟩
    rw [← e, ← hg q hq (by omega)]
    exact List.getElem_mem _
  · have hp : p < i := by omega
    refine .inr ⟨p, by rw [h1]; rfl, hp, by rw [← hg p hp h2]; exact h3, fun q a b => ?_⟩
    rw [← hg q b (by omega)]
    exact h4 q a (by omega)
theorem marks_spec (l : List Int) : ∀ i, i ≤ l.length → ∀ j, (marksTo l i j = true ↔ Mrk l i j)
  | 0, _, j => by simp [marksTo, Mrk]
  | i + 1, hi, j => by
    have ih := marks_spec l i (by omega)
    show Mk.upd _ i true j = true ↔ _
    unfold Mk.upd
    by_cases hji : j = i
    · subst hji
      rw [if_pos rfl]
      exact ⟨fun _ => ⟨by omega, fun q a b => by omega⟩, fun _ => rfl⟩
    rw [if_neg hji]
    rcases was_spec l i (by omega) with ⟨h1, h2⟩ | ⟨p, h1, h2, h3, h4⟩
    · rw [if_pos h1, ih j]
      constructor
      · rintro ⟨a, b⟩
        refine ⟨by omega, fun q c d => ?_⟩
        by_cases hq : q = i
        · rw [hq]; exact fun e => h2 j a e.symm
        · exact b q c (by omega)
      · rintro ⟨a, b⟩
        exact ⟨by omega, fun q c d => b q c (by omega)⟩
    · rw [if_neg (by omega), h1, Int.toNat_natCast]
      by_cases hjp : j = p
      · rw [if_pos hjp]
        subst hjp
        constructor
        · intro h; exact absurd h (by simp)
        · rintro ⟨a, b⟩
          exact absurd h3.symm (b i h2 (by omega))
      · rw [if_neg hjp, ih j]
        constructor
        · rintro ⟨a, b⟩
          refine ⟨by omega, fun q c d => ?_⟩
          by_cases hq : q = i
          · rw [hq]
            intro e
            by_cases hlt : p < j
            · exact h4 j hlt a e.symm
            · exact b p (by omega) h2 (h3.trans e)
          · exact b q c (by omega)
        · rintro ⟨a, b⟩
          exact ⟨by omega, fun q c d => b q c (by omega)⟩
/-- How many unlike keys there are from a place on. -/
theorem cnt_unlike (l : List Int) (i : Nat) (hi : i ≤ l.length) : ∀ c o, o + c = i → ∃ U : List Int, U.Nodup ∧ (∀ y, y ∈ U ↔ y ∈ (l.take i).drop o) ∧ Mk.cnt (marksTo l i) c o = U.length
  | 0, o, h => ⟨[], by simp, fun y => by rw [List.drop_of_length_le (by rw [List.length_take]; omega)], rfl⟩
  | c + 1, o, h => by
    obtain ⟨U, h1, h2, h3⟩ := cnt_unlike l i hi c (o + 1) (by omega)
    have htl : (l.take i).length = i := by rw [List.length_take]; omega
    have hd : (l.take i).drop o = l.getD o 0 :: (l.take i).drop (o + 1) := by
      rw [List.drop_eq_getElem_cons (by omega), List.getElem_take, getD_at l o (by omega)]
    have hm := marks_spec l i hi o
    have hmem : ∀ y, y ∈ (l.take i).drop (o + 1) ↔ ∃ q, o < q ∧ q < i ∧ l.getD q 0 = y := by
      intro y
      rw [List.mem_iff_getElem]
      constructor
      · rintro ⟨r, hr, e⟩
        rw [List.length_drop, htl] at hr
        rw [List.getElem_drop, List.getElem_take] at e
        exact ⟨o + 1 + r, by omega, by omega, by rw [getD_at l _ (by omega)]; exact e⟩
      · rintro ⟨q, a, b, e⟩
        refine ⟨q - (o + 1), by rw [List.length_drop, htl]; omega, ?_⟩
        rw [List.getElem_drop, List.getElem_take, ← e, getD_at l q (by omega)]
        congr 1
        omega
    show ∃ U : List Int, U.Nodup ∧ _ ∧ (marksTo l i o).toNat + Mk.cnt (marksTo l i) c (o + 1) = U.length
    cases hmo : marksTo l i o with
    | true =>
      have hM := hm.1 hmo
      refine ⟨l.getD o 0 :: U, List.nodup_cons.2 ⟨fun hx => ?_, h1⟩, fun y => ?_, ?_⟩
      · obtain ⟨q, a, b, e⟩ := (hmem _).1 ((h2 _).1 hx)
        exact hM.2 q a b e
      · rw [hd, List.mem_cons, List.mem_cons, h2]
      · rw [h3]; simp; omega
    | false =>
      have hM : ¬ Mrk l i o := fun hM => by rw [hm.2 hM] at hmo; exact absurd hmo (by simp)
      have hin : l.getD o 0 ∈ (l.take i).drop (o + 1) := Classical.byContradiction fun hn => hM ⟨by omega, fun q a b e => hn ((hmem _).2 ⟨q, a, b, e⟩)⟩
      refine ⟨U, h1, fun y => ?_, ?_⟩
      · rw [hd, List.mem_cons, h2]
        exact ⟨.inr, fun hy => hy.elim (fun e => e ▸ hin) id⟩
      · rw [h3]; simp
/-- The document's distance is the one that is reckoned. -/
theorem dist_ev (l : List Int) (i : Nat) (hi : i < l.length) (hb : l.length ≤ 1000000) :
    Ev (fun k => hutchref25_Distance.f k l (i : Int)) (distVal l i) ∧ (distVal l i = -1 ∧ (∀ q, q < i → l.getD q 0 ≠ l.getD i 0) ∨
      ∃ U : List Int, U.Nodup ∧ (∀ y ∈ U, y ∈ l ∧ y ≠ l.getD i 0) ∧ distVal l i = (U.length : Int) ∧ ∃ q, q < i ∧ l.getD q 0 = l.getD i 0) := by
  have htl : (l.take i).length = i := by rw [List.length_take]; omega
  have e1 : wrap64 ((i : Int) - 1) = (i : Int) - 1 := by unfold wrap64; omega
  obtain ⟨g1, g2⟩ := last_l0 l i hi hb i (Nat.le_refl _)
  rcases was_spec l i hi with ⟨h1, h2⟩ | ⟨p, h1, h2, h3, h4⟩
  · have hv : distVal l i = -1 := by unfold distVal; rw [if_pos h1]
    rw [hv]
    refine ⟨?_, .inl ⟨rfl, h2⟩⟩
    unfold hutchref25_Distance.f
    refine Ev.bind (a := -1) ?_ ?_
    · unfold hutchref25_Last.f
      rw [e1]
      refine g1 fun q hq hql e => h2 q hq ?_
      rw [getD_at l q hql, getD_at l i hi]
      exact e
    · simp only [show ((-1 : Int) < 0) by omega, if_true]
      exact Ev.now _
  · have hpl : p < l.length := by omega
    obtain ⟨U, hU, h8, h9⟩ := unlike_ev ((l.take i).drop (p + 1)) (by rw [List.length_drop, htl]; omega)
    obtain ⟨V, k1, k2, k3⟩ := cnt_unlike l i (by omega) (i - (p + 1)) (p + 1) (by omega)
    have hlen := same_len k1 h8 (fun y => (k2 y).trans (h9 y).symm)
    have hmp : marksTo l i p = true := (marks_spec l i (by omega) p).2 ⟨h2, fun q a b e => h4 q a b (e.trans h3)⟩
    have hc := Mk.cnt_add (marksTo l i) p (1 + (i - (p + 1))) 0
    have hc2 := Mk.cnt_add (marksTo l i) 1 (i - (p + 1)) p
    have hi2 : p + (1 + (i - (p + 1))) = i := by omega
    rw [hi2, Nat.zero_add] at hc
    have hone : Mk.cnt (marksTo l i) 1 p = 1 := by
      show (marksTo l i p).toNat + 0 = 1
      rw [hmp]
      rfl
    have hv : distVal l i = (U.length : Int) := by
      unfold distVal
      rw [if_neg (by omega), h1, Int.toNat_natCast]
      omega
    rw [hv]
    clear hc hc2 hone k3 hv hmp
    refine ⟨?_, .inr ⟨U, h8, fun y hy => ?_, rfl, p, h2, h3⟩⟩
    · unfold hutchref25_Distance.f
      refine Ev.bind (a := (p : Int)) ?_ ?_
      · unfold hutchref25_Last.f
        rw [e1]
        refine g2 p h2 hpl (by rw [← getD_at l p hpl, ← getD_at l i hi]; exact h3) fun q a b c e => ?_
        refine h4 q a b ?_
        rw [getD_at l q c, getD_at l i hi]
        exact e
      · clear h1 h3 h4 e1 g1 g2
        have e2 : wrap64 ((p : Int) + 1) = ((p + 1 : Nat) : Int) := by unfold wrap64; omega
        have n1 : ¬ ((p : Int) < 0) := by omega
        simp only [if_neg n1, e2, if_pos (show (0 : Int) ≤ ((p + 1 : Nat) : Int) by omega), if_pos (show ((p + 1 : Nat) : Int) ≤ (i : Int) by omega), if_pos (show (i : Int) ≤ (l.length : Int) by omega), Int.toNat_natCast]
        refine Ev.bind (a := U) ?_ ?_
        · exact hU
        · exact Ev.now _
    · have hy2 := (h9 y).1 hy
      refine ⟨List.mem_of_mem_take (List.mem_of_mem_drop hy2), fun e => ?_⟩
      obtain ⟨r, hr, e3⟩ := List.getElem_of_mem hy2
      rw [List.length_drop, htl] at hr
      rw [List.getElem_drop, List.getElem_take] at e3
      refine h4 (p + 1 + r) (by omega) (by omega) ?_
      rw [getD_at l _ (by omega), e3, e]
end Go.Proofs.Ytdjbpdahdakfjaa.CurvePure
