/- The plain laws of the best run: a least recently used cache hits no more often; hits never fall as sizes rise. -/
import Derived.Test.YtdjbpdahdakfjaaBestPure2
namespace Go.Proofs.Ytdjbpdahdakfjaa.BestPure
open Go.RowKit Go.Proofs.YtdjbpdahdakfjaaH Go.Proofs.Ytdjbpdahdakfjaa.PBest Go.Proofs.YtdjbpdahdakfjaaW.PrintWords Go.Proofs.YtdjbpdahdakfjaaW.PrintLast Go.Proofs.YtdjbpdahdakfjaaW

/-- The keys, those asked for last first. -/
def recOf (l : List Int) : List Int := l.foldl (fun R x => x :: R.erase x) []
theorem recOf_snoc (l : List Int) (x : Int) : recOf (l ++ [x]) = x :: (recOf l).erase x := by unfold recOf; rw [List.foldl_append]; rfl
theorem recOf_is (d : Nat) : ∀ l : List Int, l.length = d → (recOf l).Nodup ∧ ∀ y, y ∈ recOf l ↔ y ∈ l := by
  induction d with
  | zero => intro l hl; obtain rfl := List.eq_nil_of_length_eq_zero hl; exact ⟨by simp [recOf], by simp [recOf]⟩
  | succ d ih =>
    intro l hl
    have hne : l ≠ [] := by intro e; rw [e] at hl; simp at hl
    have e := List.dropLast_concat_getLast hne
    generalize l.getLast hne = y at e
    have hdl : l.dropLast.length = d := by simp; omega
    generalize l.dropLast = q at e hdl
    subst e
    obtain ⟨h1, h2⟩ := ih q hdl
    rw [recOf_snoc]
    refine ⟨List.nodup_cons.2 ⟨fun hm => by rw [h1.mem_erase_iff] at hm; exact hm.1 rfl, h1.erase _⟩, fun z => ?_⟩
    rw [List.mem_cons, h1.mem_erase_iff, h2, List.mem_append, List.mem_singleton]
    constructor
    · rintro (h | h)
      · exact .inr h
      · exact .inl h.2
    · rintro (h | h)
      · by_cases hz : z = y
        · exact .inl hz
        · exact .inr ⟨hz, h⟩
      · exact .inl h
theorem rec_split (q : List Int) (x : Int) (d : Nat) : ∀ s : List Int, s.length = d → x ∉ s → ∃ A B, recOf (q ++ x :: s) = A ++ x :: B ∧ A.Nodup ∧ ∀ y, y ∈ A ↔ y ∈ s := by
  induction d with
  | zero =>
    intro s hs _
    obtain rfl := List.eq_nil_of_length_eq_zero hs
    exact ⟨[], _, by rw [recOf_snoc]; rfl, by simp, by simp⟩
  | succ d ih =>
    intro s hs hx
    have hne : s ≠ [] := by intro e; rw [e] at hs; simp at hs
    have e := List.dropLast_concat_getLast hne
    generalize s.getLast hne = y at e
    have hdl : s.dropLast.length = d := by simp; omega
    generalize s.dropLast = r at e hdl
    subst e
    have hxr : x ∉ r := fun h => hx (by simp [h])
    have hxy : x ≠ y := fun h => hx (by simp [h])
    obtain ⟨A, B, h1, h2, h3⟩ := ih r hdl hxr
    rw [show q ++ x :: (r ++ [y]) = (q ++ x :: r) ++ [y] by simp, recOf_snoc, h1]
    by_cases hy : y ∈ A
    · refine ⟨y :: A.erase y, B, ?_, List.nodup_cons.2 ⟨fun hm => by rw [h2.mem_erase_iff] at hm; exact hm.1 rfl, h2.erase _⟩, fun z => ?_⟩
      · rw [List.erase_append_left _ hy]; rfl
      · rw [List.mem_cons, h2.mem_erase_iff, h3, List.mem_append, List.mem_singleton]
        constructor
        · rintro (h | h)
          · exact .inr h
          · exact .inl h.2
        · rintro (h | h)
          · by_cases hz : z = y
            · exact .inl hz
            · exact .inr ⟨hz, h⟩
          · exact .inl h
    · refine ⟨y :: A, B.erase y, ?_, List.nodup_cons.2 ⟨hy, h2⟩, fun z => ?_⟩
      · rw [List.erase_append_right _ hy, List.erase_cons_tail (by simpa using hxy)]; rfl
      · rw [List.mem_cons, h3, List.mem_append, List.mem_singleton]
        exact or_comm
theorem same_len {A U : List Int} (hA : A.Nodup) (hU : U.Nodup) (h : ∀ y, y ∈ A ↔ y ∈ U) : A.length = U.length :=
  Nat.le_antisymm (len_le_of_subset A U hA fun x hx => (h x).1 hx) (len_le_of_subset U A hU fun x hx => (h x).2 hx)

/-! The document's words. -/
theorem unlike_l0 (l : List Int) (hb : l.length ≤ 1000000) (d : Nat) : ∀ (i : Nat) (u : List Int), i ≤ l.length → l.length - i = d → u.Nodup → (∀ y, y ∈ u ↔ y ∈ l.take i) → ∃ U : List Int, Ev (fun k => hutchref24_Unlike.l0 k l u (i : Int)) U ∧ U.Nodup ∧ ∀ y, y ∈ U ↔ y ∈ l := by
  induction d with
  | zero =>
    intro i u hi hd h1 h2
    rw [List.take_of_length_le (by omega)] at h2
    refine ⟨u, Ev.from 1 fun k => ?_, h1, h2⟩
    simp only [hutchref24_Unlike.l0]
    rw [if_neg (by omega)]
  | succ d ih =>
    intro i u hi hd h1 h2
    have ha : i < l.length := by omega
    have hul : u.length ≤ l.length := len_le_of_subset u l h1 fun x hx => List.mem_of_mem_take ((h2 x).1 hx)
    have hstep : ∀ r, Ev (fun k => if decide (l[i] ∈ u) = true then hutchref24_Unlike.l0 k l u ((i + 1 : Nat) : Int) else hutchref24_Unlike.l0 k l (u ++ [l[i]]) ((i + 1 : Nat) : Int)) r → Ev (fun k => hutchref24_Unlike.l0 k l u (i : Int)) r := by
      intro r hr
      refine Ev.step (f := fun k => (hutchref12_Has.f k u l[i]).bind fun t => if t = true then hutchref24_Unlike.l0 k l u ((i + 1 : Nat) : Int) else if u.length < 17592186044416 then hutchref24_Unlike.l0 k l (u ++ [l[i]]) ((i + 1 : Nat) : Int) else none) (fun k => ?_) (Ev.bind (has_ev u l[i] (by omega)) ?_)
      · simp only [hutchref24_Unlike.l0]
        rw [if_pos (by omega), if_pos (by omega), w64_succ i (by omega), rd_at l i ha]
      · simp only [if_pos (show u.length < 17592186044416 by omega)]
        exact hr
    by_cases hm : l[i] ∈ u
    · obtain ⟨U, hU, h3, h4⟩ := ih (i + 1) u (by omega) (by omega) h1 (fun y => by
        rw [List.take_succ_eq_append_getElem ha, List.mem_append, List.mem_singleton, h2]
        exact ⟨.inl, fun h => h.elim id (fun e => by rw [e]; exact (h2 _).1 hm)⟩)
      exact ⟨U, hstep _ (by simp only [decide_eq_true hm, if_true]; exact hU), h3, h4⟩
    · obtain ⟨U, hU, h3, h4⟩ := ih (i + 1) (u ++ [l[i]]) (by omega) (by omega) (nodup_put h1 hm) (fun y => by
        rw [List.take_succ_eq_append_getElem ha, List.mem_append, List.mem_append, h2])
      exact ⟨U, hstep _ (by simp only [decide_eq_false hm, Bool.false_eq_true, if_false]; exact hU), h3, h4⟩
theorem unlike_ev (l : List Int) (hb : l.length ≤ 1000000) : ∃ U : List Int, Ev (fun k => hutchref24_Unlike.f k l) U ∧ U.Nodup ∧ ∀ y, y ∈ U ↔ y ∈ l :=
  unlike_l0 l hb _ 0 [] (by omega) rfl (by simp) (by simp)
theorem last_l0 (l : List Int) (i : Nat) (hi : i < l.length) (hb : l.length ≤ 1000000) : ∀ j : Nat, j ≤ i →
    ((∀ q, q < j → (hq : q < l.length) → l[q] ≠ l[i]) → Ev (fun k => hutchref25_Last.l0 k l (i : Int) ((j : Int) - 1)) (-1)) ∧
    (∀ p, p < j → (hp : p < l.length) → l[p] = l[i] → (∀ q, p < q → q < j → (hq : q < l.length) → l[q] ≠ l[i]) → Ev (fun k => hutchref25_Last.l0 k l (i : Int) ((j : Int) - 1)) (p : Int)) := by
  intro j
  induction j with
  | zero =>
    intro _
    refine ⟨fun _ => Ev.from 1 fun k => ?_, fun p hp => by omega⟩
    simp only [hutchref25_Last.l0]
    rw [if_neg (by omega)]
  | succ j ih =>
    intro hj
    obtain ⟨g1, g2⟩ := ih (by omega)
    have hjl : j < l.length := by omega
    have step : ∀ k, hutchref25_Last.l0 (k + 1) l (i : Int) (((j + 1 : Nat) : Int) - 1) = if l[j] = l[i] then some (j : Int) else hutchref25_Last.l0 k l (i : Int) ((j : Int) - 1) := by
      intro k
      have e : ((j + 1 : Nat) : Int) - 1 = (j : Int) := by omega
      have e2 : wrap64 ((j : Int) - 1) = (j : Int) - 1 := by unfold wrap64; omega
      simp only [hutchref25_Last.l0, e]
      rw [if_pos (by omega), if_pos (by omega), if_pos (by omega), if_pos (by omega), if_pos (by omega), rd_at l j hjl, rd_at l i hi, e2]
    refine ⟨fun h => Ev.step (fun k => by rw [step, if_neg (h j (by omega) hjl)]) (g1 fun q hq hql => h q (by omega) hql), fun p hp hpl h1 h2 => ?_⟩
    by_cases hpj : p = j
    · subst hpj
      exact Ev.from 1 fun k => by rw [step, if_pos h1]
    · exact Ev.step (fun k => by rw [step, if_neg (h2 j (by omega) (by omega) hjl)]) (g2 p (by omega) hpl h1 fun q a b c => h2 q a (by omega) c)
/-- The distance tells where a key stands among those asked for last. -/
theorem dist_ev (l : List Int) (i : Nat) (hi : i < l.length) (hb : l.length ≤ 1000000) :
    (l[i] ∉ l.take i ∧ Ev (fun k => hutchref25_Distance.f k l (i : Int)) (-1)) ∨
    ∃ A B, recOf (l.take i) = A ++ l[i] :: B ∧ l[i] ∉ A ∧ Ev (fun k => hutchref25_Distance.f k l (i : Int)) ((A.length : Nat) : Int) := by
  have htl : (l.take i).length = i := by rw [List.length_take]; omega
  have e1 : wrap64 ((i : Int) - 1) = (i : Int) - 1 := by unfold wrap64; omega
  obtain ⟨g1, g2⟩ := last_l0 l i hi hb i (Nat.le_refl _)
  rcases lastIn_spec _ (l.take i) rfl l[i] with ⟨_, h2⟩ | ⟨p, _, h2, h3, h4⟩
  · refine .inl ⟨h2, ?_⟩
    unfold hutchref25_Distance.f
    refine Ev.bind (a := -1) ?_ ?_
    · unfold hutchref25_Last.f
      rw [e1]
      refine g1 fun q hq hql e => h2 ?_
      rw [← e, List.mem_iff_getElem]
      exact ⟨q, by rw [htl]; exact hq, by rw [List.getElem_take]⟩
    · simp only [show ((-1 : Int) < 0) by omega, if_true]
      exact Ev.now _
  · right
    rw [htl] at h2
    rw [List.getElem_take] at h3
    have hpl : p < l.length := by omega
    have hsp : l.take i = l.take p ++ l[i] :: (l.take i).drop (p + 1) := by
      have h5 := (List.take_append_drop p (l.take i)).symm
      rw [List.take_take, Nat.min_eq_left (by omega), List.drop_eq_getElem_cons (by rw [htl]; exact h2), List.getElem_take, h3] at h5
      exact h5
    have hxs : l[i] ∉ (l.take i).drop (p + 1) := by
      intro hm
      obtain ⟨r, hr, e⟩ := List.getElem_of_mem hm
      rw [List.length_drop, htl] at hr
      rw [List.getElem_drop] at e
      exact h4 (p + 1 + r) (by omega) (by rw [htl]; omega) e
    obtain ⟨A, B, h5, h6, h7⟩ := rec_split (l.take p) l[i] _ _ rfl hxs
    obtain ⟨U, hU, h8, h9⟩ := unlike_ev ((l.take i).drop (p + 1)) (by rw [List.length_drop, htl]; omega)
    have hlen := same_len h6 h8 (fun y => (h7 y).trans (h9 y).symm)
    refine ⟨A, B, by rw [hsp]; exact h5, fun hm => hxs ((h7 _).1 hm), ?_⟩
    unfold hutchref25_Distance.f
    refine Ev.bind (a := (p : Int)) ?_ ?_
    · unfold hutchref25_Last.f
      rw [e1]
      refine g2 p h2 hpl h3 fun q a b c e => ?_
      have := h4 q a (by rw [htl]; exact b)
      rw [List.getElem_take] at this
      exact this e
    · have e2 : wrap64 ((p : Int) + 1) = ((p + 1 : Nat) : Int) := by unfold wrap64; omega
      simp only [if_neg (show ¬ ((p : Int) < 0) by omega), e2, if_pos (show (0 : Int) ≤ ((p + 1 : Nat) : Int) by omega), if_pos (show ((p + 1 : Nat) : Int) ≤ (i : Int) by omega), if_pos (show (i : Int) ≤ (l.length : Int) by omega), Int.toNat_natCast]
      rw [hlen]
      exact Ev.bind hU (Ev.now _)
/-- Is a place a hit of a least recently used cache? -/
def lruHit (n : Nat) (l : List Int) (i : Nat) : Bool := decide (l.getD i 0 ∈ (recOf (l.take i)).take n)
def lruCount (n : Nat) (l : List Int) : Nat → Nat
  | 0 => 0
  | i + 1 => lruCount n l i + if lruHit n l i = true then 1 else 0
theorem lruCount_le (n : Nat) (l : List Int) : ∀ i, lruCount n l i ≤ i
  | 0 => Nat.le_refl _
  | i + 1 => by
    unfold lruCount
    have := lruCount_le n l i
    split <;> omega
theorem lruCount_mono (n : Nat) (l : List Int) (d : Nat) : ∀ i, lruCount n l i ≤ lruCount n l (i + d) := by
  induction d with
  | zero => intro i; exact Nat.le_refl _
  | succ d ih =>
    intro i
    rw [Nat.add_succ]
    show _ ≤ lruCount n l (i + d) + _
    have := ih i
    omega
theorem lru_l0 (n : Nat) (l : List Int) (hb : l.length ≤ 1000000) (d : Nat) : ∀ i, i ≤ l.length → l.length - i = d → Ev (fun k => hutchref26_Hits.l0 k l (n : Int) ((lruCount n l i : Nat) : Int) (i : Int)) ((lruCount n l l.length : Nat) : Int) := by
  induction d with
  | zero =>
    intro i hi hd
    obtain rfl : i = l.length := by omega
    refine Ev.from 1 fun k => ?_
    simp only [hutchref26_Hits.l0]
    rw [if_neg (by omega)]
  | succ d ih =>
    intro i hi hd
    have ha : i < l.length := by omega
    have hn := ih (i + 1) (by omega) (by omega)
    have hgd : l.getD i 0 = l[i] := by simp [List.getD_eq_getElem?_getD, List.getElem?_eq_getElem ha]
    have hc := lruCount_le n l i
    have hw : wrap64 (((lruCount n l i : Nat) : Int) + 1) = ((lruCount n l i + 1 : Nat) : Int) := by unfold wrap64; omega
    obtain ⟨hnd, hmem⟩ := recOf_is _ (l.take i) rfl
    have hstep : ∀ (dd : Int), Ev (fun k => hutchref25_Distance.f k l (i : Int)) dd → (lruHit n l i = true ↔ (dd ≥ 0 ∧ dd < n)) → Ev (fun k => hutchref26_Hits.l0 k l (n : Int) ((lruCount n l i : Nat) : Int) (i : Int)) ((lruCount n l l.length : Nat) : Int) := by
      intro dd hdd hiff
      refine Ev.step (f := fun k => (hutchref25_Distance.f k l (i : Int)).bind fun t212 => (if t212 ≥ 0 then (if t212 < (n : Int) then (hutchref26_Hits.l0 k l (n : Int) ((lruCount n l i + 1 : Nat) : Int) ((i + 1 : Nat) : Int)) else (hutchref26_Hits.l0 k l (n : Int) ((lruCount n l i : Nat) : Int) ((i + 1 : Nat) : Int))) else (hutchref26_Hits.l0 k l (n : Int) ((lruCount n l i : Nat) : Int) ((i + 1 : Nat) : Int)))) (fun k => ?_) (Ev.bind hdd ?_)
      · simp only [hutchref26_Hits.l0]
        rw [if_pos (by omega), hw, w64_succ i (by omega)]
      · have hcs : lruCount n l (i + 1) = lruCount n l i + if lruHit n l i = true then 1 else 0 := rfl
        rw [hcs] at hn
        by_cases hh : lruHit n l i = true
        · rw [if_pos hh] at hn
          obtain ⟨h1, h2⟩ := hiff.1 hh
          simp only [if_pos h1, if_pos h2]
          exact hn
        · rw [if_neg hh, Nat.add_zero] at hn
          by_cases h1 : dd ≥ 0
          · have h2 : ¬ dd < (n : Int) := fun h => hh (hiff.2 ⟨h1, h⟩)
            simp only [if_pos h1, if_neg h2]
            exact hn
          · simp only [if_neg h1]
            exact hn
    rcases dist_ev l i ha hb with ⟨h1, h2⟩ | ⟨A, B, h1, h2, h3⟩
    · refine hstep _ h2 ⟨fun h => ?_, fun h => by omega⟩
      unfold lruHit at h
      rw [decide_eq_true_eq, hgd] at h
      exact absurd ((hmem _).1 (List.mem_of_mem_take h)) h1
    · refine hstep _ h3 ?_
      unfold lruHit
      rw [decide_eq_true_eq, hgd, h1]
      constructor
      · intro h
        refine ⟨by omega, ?_⟩
        have hlt : A.length < n := by
          refine Classical.byContradiction fun hge => ?_
          rw [List.take_append_of_le_length (by omega)] at h
          exact h2 (List.mem_of_mem_take h)
        omega
      · rintro ⟨_, h⟩
        rw [List.take_append, List.take_of_length_le (by omega), List.mem_append]
        right
        rw [show n - A.length = (n - A.length - 1) + 1 by omega, List.take_succ_cons]
        simp
theorem lru_ev (n : Nat) (l : List Int) (hb : l.length ≤ 1000000) : Ev (fun k => hutchref26_Hits.f k l (n : Int)) ((lruCount n l l.length : Nat) : Int) :=
  lru_l0 n l hb _ 0 (by omega) rfl
/-- What a least recently used cache does can be done. -/
theorem lru_play (n : Nat) (hn : 1 ≤ n) (l : List Int) (d : Nat) : ∀ i, i ≤ l.length → l.length - i = d → ∃ h, lruCount n l l.length - lruCount n l i ≤ h ∧ Play n (l.drop i) ((recOf (l.take i)).take n) h := by
  induction d with
  | zero =>
    intro i hi hd
    obtain rfl : i = l.length := by omega
    rw [List.drop_length, Nat.sub_self]
    exact ⟨0, Nat.le_refl _, .nil _⟩
  | succ d ih =>
    intro i hi hd
    have ha : i < l.length := by omega
    obtain ⟨h, hle, hp⟩ := ih (i + 1) (by omega) (by omega)
    have hgd : l.getD i 0 = l[i] := by simp [List.getD_eq_getElem?_getD, List.getElem?_eq_getElem ha]
    have hcs : lruCount n l (i + 1) = lruCount n l i + if lruHit n l i = true then 1 else 0 := rfl
    have hmn := lruCount_mono n l (l.length - (i + 1)) (i + 1)
    rw [show i + 1 + (l.length - (i + 1)) = l.length by omega] at hmn
    rw [List.drop_eq_getElem_cons ha]
    rw [List.take_succ_eq_append_getElem ha, recOf_snoc] at hp
    obtain ⟨hnd, hmem⟩ := recOf_is _ (l.take i) rfl
    obtain ⟨R, hR⟩ : ∃ R, R = recOf (l.take i) := ⟨_, rfl⟩
    obtain ⟨x, hx⟩ : ∃ x, x = l[i] := ⟨_, rfl⟩
    have hlh : lruHit n l i = decide (x ∈ R.take n) := by unfold lruHit; rw [hgd, hx, hR]
    rw [← hR] at hp hnd
    rw [← hx] at hp
    rw [← hR, ← hx]
    have hnd' : (x :: R.erase x).Nodup := List.nodup_cons.2 ⟨fun hm => by rw [hnd.mem_erase_iff] at hm; exact hm.1 rfl, hnd.erase _⟩
    have hndT : (R.take n).Nodup := hnd.sublist (List.take_sublist _ _)
    have hndT' : ((x :: R.erase x).take n).Nodup := hnd'.sublist (List.take_sublist _ _)
    have htn : (x :: R.erase x).take n = x :: (R.erase x).take (n - 1) := by
      conv => lhs; rw [show n = (n - 1) + 1 by omega]
      rw [List.take_succ_cons]
    by_cases hm : x ∈ R.take n
    · rw [decide_eq_true hm] at hlh
      rw [hlh, if_pos rfl] at hcs
      obtain ⟨h', hle', hp'⟩ := hp.more (Nat.le_refl n) hn (R.take n) hndT' hndT (by rw [List.length_take]; omega) (by rw [List.length_take]; omega) (fun y hy => by
        rw [htn, List.mem_cons] at hy
        rcases hy with rfl | hy
        · exact hm
        · obtain ⟨A, B, e, hA⟩ : ∃ A B, R = A ++ x :: B ∧ x ∉ A := by
            have := List.append_of_mem (List.mem_of_mem_take hm)
            obtain ⟨A, B, e⟩ := this
            refine ⟨A, B, e, fun hxA => ?_⟩
            rw [e, List.nodup_append] at hnd
            exact hnd.2.2 x hxA x (by simp) rfl
          have hAn : A.length < n := by
            refine Classical.byContradiction fun hge => ?_
            rw [e, List.take_append_of_le_length (by omega)] at hm
            exact hA (List.mem_of_mem_take hm)
          rw [e, List.erase_append_right _ hA, List.erase_cons_head, List.take_append] at hy
          rw [e, List.take_append, List.take_of_length_le (by omega), List.mem_append]
          rcases List.mem_append.1 hy with hy | hy
          · exact .inl (List.mem_of_mem_take hy)
          · refine .inr ?_
            rw [show n - A.length = (n - 1 - A.length) + 1 by omega, List.take_succ_cons]
            exact List.mem_cons_of_mem _ hy)
      exact ⟨h' + 1, by omega, .hit hm hp'⟩
    · rw [decide_eq_false hm] at hlh
      rw [hlh, if_neg (by simp), Nat.add_zero] at hcs
      by_cases hlt : R.length < n
      · have hRt : R.take n = R := List.take_of_length_le (by omega)
        rw [hRt] at hm ⊢
        rw [List.erase_of_not_mem hm, List.take_of_length_le (by simp; omega)] at hp
        obtain ⟨h', hle', hp'⟩ := hp.more (Nat.le_refl n) hn (R ++ [x]) (by rw [List.erase_of_not_mem hm] at hnd'; exact hnd') (nodup_put hnd hm) (by simp; omega) (by simp; omega) (fun y hy => by
          rw [List.mem_cons] at hy
          rw [List.mem_append, List.mem_singleton]
          exact hy.elim .inr .inl)
        exact ⟨h', by omega, .put hm hlt hp'⟩
      · have hTl : (R.take n).length = n := by rw [List.length_take]; omega
        have hvm : (R.take n)[n - 1]'(by omega) ∈ R.take n := List.getElem_mem _
        have hpre : ∀ y, y ∈ (R.erase x).take (n - 1) → y ∈ R.take (n - 1) := by
          intro y hy
          by_cases hxR : x ∈ R
          · obtain ⟨A, B, e⟩ := List.append_of_mem hxR
            have hA : x ∉ A := fun hxA => by
              rw [e, List.nodup_append] at hnd
              exact hnd.2.2 x hxA x (by simp) rfl
            have hAn : n ≤ A.length := by
              refine Classical.byContradiction fun hlt' => hm ?_
              rw [e, List.take_append, List.mem_append]
              right
              rw [show n - A.length = (n - A.length - 1) + 1 by omega, List.take_succ_cons]
              simp
            rw [e, List.erase_append_right _ hA, List.take_append_of_le_length (by omega)] at hy
            rw [e, List.take_append_of_le_length (by omega)]
            exact hy
          · rwa [List.erase_of_not_mem hxR] at hy
        obtain ⟨h', hle', hp'⟩ := hp.more (Nat.le_refl n) hn ((R.take n).erase ((R.take n)[n - 1]'(by omega)) ++ [x]) hndT' (nodup_evict hndT hm) (by rw [List.length_take]; omega) (by rw [len_evict hvm]; omega) (fun y hy => by
          rw [htn, List.mem_cons] at hy
          rw [mem_evict hndT]
          rcases hy with hy | hy
          · exact .inr hy
          · have hy2 := hpre y hy
            obtain ⟨r, hr, e⟩ := List.getElem_of_mem hy2
            rw [List.length_take] at hr
            rw [List.getElem_take] at e
            refine .inl ⟨fun e' => ?_, ?_⟩
            · have e3 : (R.take n)[r]'(by omega) = (R.take n)[n - 1]'(by omega) := by rw [List.getElem_take, e, e']
              have := nd_inj hndT _ _ e3
              omega
            · rw [List.mem_iff_getElem]
              exact ⟨r, by omega, by rw [List.getElem_take]; exact e⟩)
        exact ⟨h', by omega, .evict hm hTl hvm hp'⟩
theorem rises_law (l : List Int) (a : Int) (hw : ∀ x ∈ l, (Lit.int .u64 x).wf = true) (ha : (Lit.int .u8 a).wf = true) : Ev (fun k => hutchlaw27_BestRises.f k l a) true := by
  unfold hutchlaw27_BestRises.f
  by_cases hl : (l.length : Int) > 80
  · simp only [if_pos hl]
    exact Ev.bind alive_ev (Ev.now _)
  · simp only [if_neg hl]
    obtain ⟨n, h1, h2, h3⟩ := size_is a 40 (by omega) (by omega) ha
    rw [h3]
    have h4 : wrap64 ((n : Int) + 1) = ((n + 1 : Nat) : Int) := by unfold wrap64; omega
    rw [h4]
    obtain ⟨h, hh, hp, hb⟩ := hits_best l n h1 (by omega) hw
    obtain ⟨h', hh', hp', hb'⟩ := hits_best l (n + 1) (by omega) (by omega) hw
    obtain ⟨g, hg1, hg2⟩ := hp.more (Nat.le_succ n) h1 [] (by simp) (by simp) (by simp) (by simp) (fun x hx => hx)
    have hle : h ≤ h' := Nat.le_trans hg1 (hb' _ hg2)
    obtain ⟨q, hq1, hq2⟩ := lru_play n h1 l _ 0 (by omega) rfl
    have hq3 : lruCount n l l.length ≤ h := by
      have := hb q (by simpa [recOf] using hq2)
      have e0 : lruCount n l 0 = 0 := rfl
      omega
    refine Ev.bind (Ev.plain hh) (Ev.bind (Ev.plain hh') ?_)
    simp only [if_pos (show (h : Int) ≤ (h' : Int) by omega)]
    refine Ev.bind (lru_ev n l (by omega)) ?_
    simp only [if_pos (show (h : Int) ≥ ((lruCount n l l.length : Nat) : Int) by omega)]
    exact Ev.bind alive_ev (Ev.now _)
end Go.Proofs.Ytdjbpdahdakfjaa.BestPure
