/- The plain laws of the best run: places that come next; the run lets that go which comes last; so nothing hits more often. -/
import Derived.Test.YtdjbpdahdakfjaaPBestx2
import Derived.Test.YtdjbpdahdakfjaaHPlay
namespace Go.Proofs.Ytdjbpdahdakfjaa.BestPure
open Go.RowKit Go.Proofs.YtdjbpdahdakfjaaH Go.Proofs.Ytdjbpdahdakfjaa.PBest Go.Proofs.YtdjbpdahdakfjaaW.PrintWords Go.Proofs.YtdjbpdahdakfjaaW.PrintLast Go.Proofs.YtdjbpdahdakfjaaW

theorem rd_at (l : List Int) (i : Nat) (h : i < l.length) : rd l (i : Int) = l[i] := by simp [rd, List.getD_eq_getElem?_getD, List.getElem?_eq_getElem h]

/-! Which place comes next. -/
/-- Where a key was last, in words. -/
theorem lastIn_spec (d : Nat) : ∀ (l : List Int), l.length = d → ∀ x : Int,
    (lastIn l x = none ∧ x ∉ l) ∨ ∃ p : Nat, lastIn l x = some (p : Int) ∧ ∃ h : p < l.length, l[p] = x ∧ ∀ q, p < q → (hq : q < l.length) → l[q] ≠ x := by
  induction d with
  | zero => intro l hl x; obtain rfl := List.eq_nil_of_length_eq_zero hl; exact .inl ⟨rfl, by simp⟩
  | succ d ih =>
    intro l hl x
    have hne : l ≠ [] := by intro e; rw [e] at hl; simp at hl
    have e := List.dropLast_concat_getLast hne
    generalize l.getLast hne = y at e
    have hdl : l.dropLast.length = d := by simp; omega
    generalize l.dropLast = q at e hdl
    subst e
    rw [lastIn_snoc]
    by_cases hxy : x = y
    · subst hxy
      rw [if_pos rfl]
      refine .inr ⟨q.length, rfl, by simp, by simp, fun r h1 h2 => ?_⟩
      simp at h2
      omega
    · rw [if_neg hxy]
      rcases ih q hdl x with ⟨h1, h2⟩ | ⟨p, h1, h2, h3, h4⟩
      · exact .inl ⟨h1, by simp [h2]; exact hxy⟩
      · refine .inr ⟨p, h1, by simp; omega, by rw [List.getElem_append_left h2]; exact h3, fun r h5 h6 => ?_⟩
        by_cases hr : r < q.length
        · rw [List.getElem_append_left hr]; exact h4 r h5 hr
        · simp at h6
          have : r = q.length := by omega
          subst this
          rw [List.getElem_append_right (Nat.le_refl _)]
          simp
          exact fun h => hxy h.symm
/-- What the place p of nextTo j is. -/
def NextAt (l : List Int) (j p : Nat) (v : Int) : Prop :=
  (∃ q : Nat, p < q ∧ q < j ∧ v = (q : Int) ∧ (∃ (h1 : q < l.length) (h2 : p < l.length), l[q] = l[p] ∧ ∀ r, p < r → r < q → (hr : r < l.length) → l[r] ≠ l[p])) ∨
  (v = (l.length : Int) ∧ ∀ r, p < r → r < j → (hr : r < l.length) → (hp : p < l.length) → l[r] ≠ l[p])
theorem nextTo_spec (l : List Int) : ∀ j, j ≤ l.length → ∀ p, p < l.length → NextAt l j p (rd (nextTo l j) (p : Int)) := by
  intro j
  induction j with
  | zero =>
    intro _ p hp
    refine .inr ⟨?_, fun r _ h => by omega⟩
    rw [rd_at _ p (by rw [nextTo_len]; exact hp)]
    simp [nextTo]
  | succ j ih =>
    intro hj p hp
    have ih' := ih (by omega) p hp
    have hjl : j < l.length := by omega
    have hlast := lastOf_at l j hjl
    have hgd : l.getD j 0 = l[j] := by simp [List.getD_eq_getElem?_getD, List.getElem?_eq_getElem hjl]
    rw [hgd] at hlast
    have htl : (l.take j).length = j := by rw [List.length_take]; omega
    unfold nextTo
    rcases lastIn_spec _ (l.take j) rfl l[j] with ⟨h1, h2⟩ | ⟨q, h1, h2, h3, h4⟩
    · rw [h1] at hlast
      simp only [Option.getD_none] at hlast
      rw [if_pos hlast]
      -- l[j] is new
      rcases ih' with ⟨q, a1, a2, a3, a4⟩ | ⟨a1, a2⟩
      · exact .inl ⟨q, a1, by omega, a3, a4⟩
      · refine .inr ⟨a1, fun r b1 b2 hr hp' => ?_⟩
        by_cases hrj : r = j
        · subst hrj
          intro e
          refine h2 ?_
          rw [e]
          rw [List.mem_iff_getElem]
          exact ⟨p, by rw [htl]; exact b1, by rw [List.getElem_take]⟩
        · exact a2 r b1 (by omega) hr hp'
    · rw [h1] at hlast
      simp only [Option.getD_some] at hlast
      rw [if_neg (by rw [hlast]; omega), hlast, Int.toNat_natCast]
      rw [htl] at h2
      rw [List.getElem_take] at h3
      have hset : rd ((nextTo l j).set q (j : Int)) (p : Int) = if q = p then (j : Int) else rd (nextTo l j) (p : Int) := by
        rw [rd_at _ p (by rw [List.length_set, nextTo_len]; exact hp), List.getElem_set]
        split
        · rfl
        · rw [rd_at _ p (by rw [nextTo_len]; exact hp)]
      rw [hset]
      by_cases hqp : q = p
      · rw [if_pos hqp]
        subst hqp
        refine .inl ⟨j, h2, by omega, rfl, hjl, hp, h3.symm, fun r b1 b2 hr => ?_⟩
        have := h4 r b1 (by rw [htl]; exact b2)
        rw [List.getElem_take] at this
        rw [h3]
        exact this
      · rw [if_neg hqp]
        rcases ih' with ⟨q', a1, a2, a3, a4⟩ | ⟨a1, a2⟩
        · exact .inl ⟨q', a1, by omega, a3, a4⟩
        · refine .inr ⟨a1, fun r b1 b2 hr hp' => ?_⟩
          by_cases hrj : r = j
          · subst hrj
            intro e
            -- then p < j has l[p] = l[j], so q, the last, is above p: a contradiction to a2
            have hpq : ¬ q < p := fun hlt => by
              have := h4 p hlt (by rw [htl]; exact b1)
              rw [List.getElem_take] at this
              exact this e.symm
            have hlt : p < q := by omega
            exact a2 q hlt h2 (by omega) hp' (by rw [h3, e])
          · exact a2 r b1 (by omega) hr hp'
theorem idxOf_of {t : List Int} {x : Int} {k : Nat} (hk : k < t.length) (h1 : t[k] = x) (h2 : ∀ r, r < k → (hr : r < t.length) → t[r] ≠ x) : t.idxOf x = k := by
  have hm : x ∈ t := by rw [← h1]; exact List.getElem_mem _
  have hlt := List.idxOf_lt_length_of_mem hm
  have hg := List.getElem_idxOf hlt
  rcases Nat.lt_trichotomy (t.idxOf x) k with h | h | h
  · exact absurd hg (h2 _ h hlt)
  · exact h
  · have hnl := List.not_of_lt_findIdx (p := fun y => y == x) (xs := t) (i := k) h
    simp [h1] at hnl
theorem next_is (l : List Int) (i : Nat) (hi : i < l.length) : rd (nextOf l) (i : Int) = ((i + 1 + (l.drop (i + 1)).idxOf l[i] : Nat) : Int) := by
  have hld : (l.drop (i + 1)).length = l.length - (i + 1) := List.length_drop
  rcases nextTo_spec l l.length (Nat.le_refl _) i hi with ⟨q, a1, a2, a3, h1, h2, a4, a5⟩ | ⟨a1, a2⟩
  · have : (l.drop (i + 1)).idxOf l[i] = q - (i + 1) := by
      refine idxOf_of (by omega) ?_ (fun r hr hr' => ?_)
      · rw [List.getElem_drop]
        have e : i + 1 + (q - (i + 1)) = q := by omega
        simp only [e]
        exact a4
      · rw [List.getElem_drop]
        exact a5 (i + 1 + r) (by omega) (by omega) (by omega)
    rw [this]
    unfold nextOf
    rw [a3]
    congr 1
    omega
  · have hn : l[i] ∉ l.drop (i + 1) := by
      intro hm
      obtain ⟨r, hr, e⟩ := List.getElem_of_mem hm
      rw [List.getElem_drop] at e
      exact a2 (i + 1 + r) (by omega) (by omega) (by omega) hi e
    rw [List.idxOf_eq_length hn, hld]
    unfold nextOf
    rw [a1]
    congr 1
    omega

/-! The run lets that go which comes last. -/
/-- The run of n places that lets that go which comes last. -/
inductive Bel (n : Nat) : List Int → List Int → Nat → Prop
  | nil (K : List Int) : Bel n [] K 0
  | hit {x : Int} {t K : List Int} {h : Nat} (hx : x ∈ K) (hp : Bel n t K h) : Bel n (x :: t) K (h + 1)
  | put {x : Int} {t K : List Int} {h : Nat} (hx : x ∉ K) (hl : K.length < n) (hp : Bel n t (K ++ [x]) h) : Bel n (x :: t) K h
  | evict {x v : Int} {t K : List Int} {h : Nat} (hx : x ∉ K) (hl : K.length = n) (hv : v ∈ K) (hf : ∀ u ∈ K, t.idxOf u ≤ t.idxOf v) (hp : Bel n t (K.erase v ++ [x]) h) : Bel n (x :: t) K h
theorem Bel.play {n : Nat} {t K : List Int} {h : Nat} (hb : Bel n t K h) : Play n t K h := by
  induction hb with
  | nil K => exact .nil K
  | hit hx _ ih => exact .hit hx ih
  | put hx hl _ ih => exact .put hx hl ih
  | evict hx hl hv _ _ ih => exact .evict hx hl hv ih
theorem Bel.best {n : Nat} (hn : 1 ≤ n) {t K : List Int} {h : Nat} (hb : Bel n t K h) : K.Nodup → ∀ h', Play n t K h' → h' ≤ h := by
  induction hb with
  | nil K => intro _ h' hp; cases hp; exact Nat.le_refl _
  | hit hx _ ih =>
    intro hK h' hp
    cases hp with
    | hit _ hp => have := ih hK _ hp; omega
    | put hx' _ _ => exact absurd hx hx'
    | evict hx' _ _ _ => exact absurd hx hx'
  | put hx hl _ ih =>
    intro hK h' hp
    cases hp with
    | hit hx' _ => exact absurd hx' hx
    | put _ _ hp => exact ih (nodup_put hK hx) _ hp
    | evict _ hl' _ _ => omega
  | evict hx hl hv hf _ ih =>
    intro hK h' hp
    cases hp with
    | hit hx' _ => exact absurd hx' hx
    | put _ hl' _ => omega
    | evict _ _ hu hp =>
      obtain ⟨h2, hle, hp2⟩ := hp.last hn hK hl hx hv hu (hf _ hu)
      exact Nat.le_trans hle (ih (nodup_evict hK hx) _ hp2)

/-- The keys that are kept. -/
def keysOf (f : List S138) : List Int := f.map S138.f0
/-- What is kept ahead of place i is as it should be. -/
structure Inv (l : List Int) (n i : Nat) (f : List S138) : Prop where
  nd : (keysOf f).Nodup
  le : f.length ≤ n
  li : f.length ≤ i
  nx : ∀ x ∈ f, x.f1 = ((i + (l.drop i).idxOf x.f0 : Nat) : Int)
theorem worst_max (f : List S138) (e : Int) : ∀ j, j ≤ f.length → ∀ i, i < j → (rd_T138 f (i : Int)).f1 ≤ (rd_T138 f (worstTo f e j : Nat)).f1
  | 0, _, i, hi => absurd hi (by omega)
  | j + 1, hj, i, hi => by
    unfold worstTo
    have ih := worst_max f e j (by omega)
    by_cases hw : worseH e (rd_T138 f (j : Int)) (rd_T138 f (worstTo f e j : Nat)) = true
    · rw [if_pos hw]
      have hge : (rd_T138 f (worstTo f e j : Nat)).f1 ≤ (rd_T138 f (j : Int)).f1 := by
        unfold worseH at hw
        simp only [Bool.or_eq_true, Bool.and_eq_true, decide_eq_true_eq, beq_iff_eq] at hw
        omega
      by_cases hij : i = j
      · subst hij; exact Int.le_refl _
      · exact Int.le_trans (ih i (by omega)) hge
    · rw [if_neg hw]
      by_cases hij : i = j
      · subst hij
        unfold worseH at hw
        simp only [Bool.or_eq_true, Bool.and_eq_true, decide_eq_true_eq, beq_iff_eq] at hw
        omega
      · exact ih i (by omega)
theorem keys_len (f : List S138) : (keysOf f).length = f.length := by simp [keysOf]
theorem keys_at (f : List S138) (m : Nat) (h : m < f.length) : (keysOf f)[m]'(by rw [keys_len]; exact h) = f[m].f0 := by simp [keysOf]
theorem heldAt_mem {f : List S138} {x : Int} {m : Nat} (hm : m < f.length) (h : heldAt f x = (m : Int)) : f[m].f0 = x := by
  unfold heldAt at h
  cases hf : f.findIdx? (fun y => y.f0 == x) with
  | none => rw [hf] at h; (first | (simp at h; done) | (simp at h; omega))
  | some j =>
    rw [hf] at h
    simp only [Int.natCast_inj] at h
    subst h
    obtain ⟨_, h2, _⟩ := List.findIdx?_eq_some_iff_getElem.1 hf
    simpa using h2
theorem heldAt_none {f : List S138} {x : Int} (h : heldAt f x = -1) : x ∉ keysOf f := by
  intro hm
  unfold keysOf at hm
  obtain ⟨y, hy, rfl⟩ := List.mem_map.1 hm
  unfold heldAt at h
  cases hf : f.findIdx? (fun z => z.f0 == y.f0) with
  | none =>
    rw [List.findIdx?_eq_none_iff] at hf
    have := hf y hy
    simp at this
  | some j => rw [hf] at h; (first | (simp at h; done) | (simp at h; omega))
theorem nd_inj {l : List Int} (h : l.Nodup) {i j : Nat} (hi : i < l.length) (hj : j < l.length) (e : l[i] = l[j]) : i = j := by
  rcases Nat.lt_trichotomy i j with h1 | h1 | h1
  · exact absurd e (List.pairwise_iff_getElem.1 h i j hi hj h1)
  · exact h1
  · exact absurd e.symm (List.pairwise_iff_getElem.1 h j i hj hi h1)
theorem erase_at : ∀ (l : List Int) (m : Nat) (h : m < l.length), l.Nodup → l.erase l[m] = l.eraseIdx m
  | x :: l, 0, _, _ => by simp
  | x :: l, m + 1, h, hd => by
    rw [List.nodup_cons] at hd
    have hm : m < l.length := by simpa using h
    have hne : x ≠ l[m] := fun e => hd.1 (e ▸ List.getElem_mem _)
    simp only [List.getElem_cons_succ, List.eraseIdx_cons_succ]
    rw [List.erase_cons_tail (by simpa using hne), erase_at l m hm hd.2]
theorem map_erase (f : List S138) (m : Nat) : (f.eraseIdx m).map S138.f0 = (f.map S138.f0).eraseIdx m := by
  simp [List.eraseIdx_eq_take_drop_succ, List.map_take, List.map_drop]
/-- What a step does. -/
theorem step_is (l : List Int) (n i : Nat) (hn : 1 ≤ n) (hi : i < l.length) (hll : l.length ≤ 4096) (f : List S138) (g : List Int) (hI : Inv l n i f) (hg : g.length ≤ i) :
    ∃ r, best_ask.f f g (l.length : Int) ⟨rd l (i : Int), rd (nextOf l) (i : Int)⟩ (n : Int) = some r ∧ Inv l n (i + 1) r.2.1 ∧ r.2.2.length ≤ i + 1 ∧
      ((r.1 = true ∧ l[i] ∈ keysOf f ∧ keysOf r.2.1 = keysOf f) ∨
       (r.1 = false ∧ l[i] ∉ keysOf f ∧ (keysOf f).length < n ∧ keysOf r.2.1 = keysOf f ++ [l[i]]) ∨
       (r.1 = false ∧ l[i] ∉ keysOf f ∧ (keysOf f).length = n ∧ ∃ v ∈ keysOf f, keysOf r.2.1 = (keysOf f).erase v ++ [l[i]] ∧ ∀ u ∈ keysOf f, (l.drop (i + 1)).idxOf u ≤ (l.drop (i + 1)).idxOf v)) := by
  have hnx := next_is l i hi
  have hli := hI.li
  have hle := hI.le
  have hdrop : l.drop i = l[i] :: l.drop (i + 1) := List.drop_eq_getElem_cons hi
  have hnext : ∀ x ∈ f, x.f0 ≠ l[i] → x.f1 = ((i + 1 + (l.drop (i + 1)).idxOf x.f0 : Nat) : Int) := by
    intro x hx hne
    rw [hI.nx x hx, hdrop, idx_ne _ (fun e => hne e.symm)]
    congr 1
    omega
  unfold best_ask.f
  rw [if_pos ⟨by omega, by omega⟩, rd_at l i hi]
  rcases heldAt_cases f l[i] with ⟨m, hm, hmi⟩ | hmi
  · rw [hmi, if_pos (by omega), Int.toNat_natCast]
    have hk := heldAt_mem hm hmi
    have hks : keysOf (f.set m ⟨l[i], rd (nextOf l) (i : Int)⟩) = keysOf f := by
      unfold keysOf
      rw [List.map_set]
      apply List.ext_getElem
      · simp
      · intro j h1 h2
        rw [List.getElem_set]
        split
        · rename_i e; subst e; simp [hk]
        · rfl
    refine ⟨_, rfl, ⟨by rw [hks]; exact hI.nd, by rw [List.length_set]; exact hle, by rw [List.length_set]; omega, fun x hx => ?_⟩, by show g.length ≤ i + 1; omega, .inl ⟨rfl, ?_, hks⟩⟩
    · obtain ⟨j, hj, rfl⟩ := List.getElem_of_mem hx
      rw [List.length_set] at hj
      rw [List.getElem_set]
      split
      · exact hnx
      · rename_i hne
        refine hnext _ (List.getElem_mem _) (fun e => hne ?_)
        have h1 : (keysOf f)[m]'(by rw [keys_len]; exact hm) = (keysOf f)[j]'(by rw [keys_len]; exact hj) := by rw [keys_at f m hm, keys_at f j hj, hk, e]
        exact nd_inj hI.nd _ _ h1
    · unfold keysOf
      exact List.mem_map.2 ⟨f[m], List.getElem_mem _, hk⟩
  · rw [hmi, if_neg (by omega)]
    have hnm := heldAt_none hmi
    have hnf : ∀ x ∈ f, x.f0 ≠ l[i] := fun x hx e => hnm (by unfold keysOf; exact List.mem_map.2 ⟨x, hx, e⟩)
    by_cases hfull : f.length = n
    · rw [if_pos (by omega), if_neg (by intro e; rw [e] at hfull; simp at hfull; omega)]
      have hw := worstTo_lt f (l.length : Int) f.length (by omega)
      obtain ⟨m, hmd⟩ : ∃ m, m = worstTo f (l.length : Int) f.length := ⟨_, rfl⟩
      have hmax := worst_max f (l.length : Int) f.length (Nat.le_refl _)
      rw [← hmd] at hw hmax ⊢
      have hke : keysOf (f.eraseIdx m ++ [⟨l[i], rd (nextOf l) (i : Int)⟩]) = (keysOf f).erase f[m].f0 ++ [l[i]] := by
        unfold keysOf
        rw [List.map_append, map_erase]
        congr 1
        have := erase_at (keysOf f) m (by rw [keys_len]; exact hw) hI.nd
        rw [keys_at f m hw] at this
        exact this.symm
      have hvm : f[m].f0 ∈ keysOf f := by unfold keysOf; exact List.mem_map.2 ⟨_, List.getElem_mem _, rfl⟩
      have hlen : (f.eraseIdx m ++ [(⟨l[i], rd (nextOf l) (i : Int)⟩ : S138)]).length = f.length := by
        rw [List.length_append, List.length_eraseIdx]
        simp [hw]
        omega
      refine ⟨_, rfl, ⟨by rw [hke]; exact nodup_evict hI.nd hnm, by rw [hlen]; exact hle, by rw [hlen]; omega, fun x hx => ?_⟩, by simp; omega, .inr (.inr ⟨rfl, hnm, by rw [keys_len]; exact hfull, f[m].f0, hvm, hke, fun u hu => ?_⟩)⟩
      · rcases List.mem_append.1 hx with hx | hx
        · have hx' := List.mem_of_mem_eraseIdx hx
          exact hnext x hx' (hnf x hx')
        · rw [List.mem_singleton] at hx
          rw [hx]
          exact hnx
      · unfold keysOf at hu
        obtain ⟨y, hy, rfl⟩ := List.mem_map.1 hu
        obtain ⟨j, hj, rfl⟩ := List.getElem_of_mem hy
        have h1 := hmax j hj
        rw [rd138_at f j hj, rd138_at f m hw] at h1
        rw [hnext _ (List.getElem_mem hj) (hnf _ (List.getElem_mem hj)), hnext _ (List.getElem_mem hw) (hnf _ (List.getElem_mem hw))] at h1
        omega
    · rw [if_neg (by omega)]
      have hke : keysOf (f ++ [⟨l[i], rd (nextOf l) (i : Int)⟩]) = keysOf f ++ [l[i]] := by simp [keysOf]
      refine ⟨_, rfl, ⟨by rw [hke]; exact nodup_put hI.nd hnm, by simp; omega, by simp; omega, fun x hx => ?_⟩, by show g.length ≤ i + 1; omega, .inr (.inl ⟨rfl, hnm, by rw [keys_len]; omega, hke⟩)⟩
      rcases List.mem_append.1 hx with hx | hx
      · exact hnext x hx (hnf x hx)
      · rw [List.mem_singleton] at hx
        rw [hx]
        exact hnx
theorem whole_inv (l : List Int) (n : Nat) (hn : 1 ≤ n) (hll : l.length ≤ 4096) : ∀ i, i ≤ l.length → ∃ s, wholeTo l (n : Int) i = some s ∧ Inv l n i s.2.1 ∧ s.2.2.length ≤ i := by
  intro i
  induction i with
  | zero => intro _; exact ⟨_, rfl, ⟨by simp [keysOf], by simp, by simp, fun x hx => by simp at hx⟩, by simp⟩
  | succ i ih =>
    intro hi
    obtain ⟨s, hs, hI, hg⟩ := ih (by omega)
    obtain ⟨r, hr, hI2, hg2, _⟩ := step_is l n i hn (by omega) hll s.2.1 s.2.2 hI hg
    refine ⟨(s.1 ++ [r.1], r.2.1, r.2.2), ?_, hI2, hg2⟩
    simp only [wholeTo]
    rw [hs, Option.bind_some, hr, Option.bind_some]
/-- The run from place i on. -/
theorem whole_bel (l : List Int) (n : Nat) (hn : 1 ≤ n) (hll : l.length ≤ 4096) (S : List Bool × List S138 × List Int) (hS : wholeTo l (n : Int) l.length = some S) (d : Nat) :
    ∀ i, i ≤ l.length → l.length - i = d → ∀ s, wholeTo l (n : Int) i = some s → Bel n (l.drop i) (keysOf s.2.1) (S.1.count true - s.1.count true) ∧ s.1.count true ≤ S.1.count true := by
  induction d with
  | zero =>
    intro i hi hd s hs
    obtain rfl : i = l.length := by omega
    rw [hS] at hs
    obtain rfl := Option.some.inj hs
    rw [List.drop_length, Nat.sub_self]
    exact ⟨.nil _, Nat.le_refl _⟩
  | succ d ih =>
    intro i hi hd s hs
    have hil : i < l.length := by omega
    obtain ⟨s', hs', hI, hg⟩ := whole_inv l n hn hll i hi
    rw [hs] at hs'
    obtain rfl := Option.some.inj hs'
    obtain ⟨r, hr, hI2, hg2, hcase⟩ := step_is l n i hn hil hll s.2.1 s.2.2 hI hg
    have hs2 : wholeTo l (n : Int) (i + 1) = some (s.1 ++ [r.1], r.2.1, r.2.2) := by
      simp only [wholeTo]
      rw [hs, Option.bind_some, hr, Option.bind_some]
    obtain ⟨hb, hc⟩ := ih (i + 1) (by omega) (by omega) _ hs2
    simp only [List.count_append] at hb hc
    rw [List.drop_eq_getElem_cons hil]
    rcases hcase with ⟨h1, h2, h3⟩ | ⟨h1, h2, h3, h4⟩ | ⟨h1, h2, h3, v, h4, h5, h6⟩
    · rw [h1] at hb hc
      simp only [List.count_singleton_self] at hb hc
      rw [h3] at hb
      refine ⟨?_, by omega⟩
      have := Bel.hit h2 hb
      rwa [show S.1.count true - (s.1.count true + 1) + 1 = S.1.count true - s.1.count true by omega] at this
    · rw [h1] at hb hc
      simp only [show List.count true [false] = 0 from rfl, Nat.add_zero] at hb hc
      rw [h4] at hb
      exact ⟨.put h2 h3 hb, hc⟩
    · rw [h1] at hb hc
      simp only [show List.count true [false] = 0 from rfl, Nat.add_zero] at hb hc
      rw [h5] at hb
      exact ⟨.evict h2 h3 h4 h6 hb, hc⟩
/-- Hits tells the most that can be. -/
theorem hits_best (l : List Int) (n : Nat) (hn : 1 ≤ n) (hll : l.length ≤ 4096) (hw : ∀ x ∈ l, (Lit.int .u64 x).wf = true) :
    ∃ h : Nat, best_Hits.f l (n : Int) = some (h : Int) ∧ Play n l [] h ∧ ∀ h', Play n l [] h' → h' ≤ h := by
  obtain ⟨S, hS, _⟩ := whole_inv l n hn hll l.length (Nat.le_refl _)
  have hb := (whole_bel l n hn hll S hS l.length 0 (by omega) (by omega) _ rfl).1
  simp only [List.count_nil, Nat.sub_zero, List.drop_zero] at hb
  refine ⟨S.1.count true, ?_, hb.play, hb.best hn (by simp [keysOf])⟩
  unfold best_Hits.f best_whole.f
  rw [if_neg (by rintro (h | h) <;> omega), if_pos hw, hS]
  rfl
end Go.Proofs.Ytdjbpdahdakfjaa.BestPure
