/- The plain laws of the best run: which places are hits, and what goes, is as the document says. -/
import Derived.Test.YtdjbpdahdakfjaaBestPure3
namespace Go.Proofs.Ytdjbpdahdakfjaa.BestPure
open Go.RowKit Go.Proofs.YtdjbpdahdakfjaaH Go.Proofs.Ytdjbpdahdakfjaa.PBest Go.Proofs.YtdjbpdahdakfjaaW.PrintWords Go.Proofs.YtdjbpdahdakfjaaW.PrintLast Go.Proofs.YtdjbpdahdakfjaaW

/-- The next place with a key, from one on, as the document tells it. -/
def nextV (l : List Int) (from_ : Nat) (key : Int) : Int := if key ∈ l.drop from_ then ((from_ + (l.drop from_).idxOf key : Nat) : Int) else -1
theorem next_l0 (l : List Int) (key : Int) (hb : l.length ≤ 1000000) (d : Nat) : ∀ i, i ≤ l.length → l.length - i = d → Ev (fun k => hutchref27_next.l0 k l key (i : Int)) (nextV l i key) := by
  induction d with
  | zero =>
    intro i hi hd
    refine Ev.from 1 fun k => ?_
    simp only [hutchref27_next.l0]
    rw [if_neg (by omega)]
    unfold nextV
    rw [List.drop_of_length_le (by omega), if_neg (by simp)]
  | succ d ih =>
    intro i hi hd
    have ha : i < l.length := by omega
    have step : ∀ k, hutchref27_next.l0 (k + 1) l key (i : Int) = if l[i] = key then some (i : Int) else hutchref27_next.l0 k l key ((i + 1 : Nat) : Int) := by
      intro k
      simp only [hutchref27_next.l0]
      rw [if_pos (by omega), if_pos (by omega), rd_at l i ha, w64_succ i (by omega)]
    have hn := ih (i + 1) (by omega) (by omega)
    unfold nextV
    rw [List.drop_eq_getElem_cons ha]
    by_cases e : l[i] = key
    · rw [if_pos (by rw [e]; simp), e, idx_same]
      exact Ev.from 1 fun k => by rw [step, if_pos e]; rfl
    · refine Ev.step (fun k => by rw [step, if_neg e]) ?_
      unfold nextV at hn
      by_cases hm : key ∈ l.drop (i + 1)
      · rw [if_pos hm] at hn
        rw [if_pos (List.mem_cons_of_mem _ hm), idx_ne _ e]
        rw [show i + ((l.drop (i + 1)).idxOf key + 1) = i + 1 + (l.drop (i + 1)).idxOf key by omega]
        exact hn
      · rw [if_neg hm] at hn
        rw [if_neg (fun h => by rcases List.mem_cons.1 h with h | h; exact e h.symm; exact hm h)]
        exact hn
theorem next_ev (l : List Int) (i : Nat) (key : Int) (hi : i ≤ l.length) (hb : l.length ≤ 1000000) : Ev (fun k => hutchref27_next.f k l (i : Int) key) (nextV l i key) := next_l0 l key hb _ i hi rfl
theorem worse_ev (l : List Int) (i : Nat) (hi : i ≤ l.length) (hb : l.length ≤ 1000000) (a b : S138) (ha : a.f1 = ((i + (l.drop i).idxOf a.f0 : Nat) : Int)) (hbb : b.f1 = ((i + (l.drop i).idxOf b.f0 : Nat) : Int)) :
    Ev (fun k => hutchref27_worse.f k l (i : Int) a.f0 b.f0) (worseH (l.length : Int) a b) := by
  have hdl : (l.drop i).length = l.length - i := List.length_drop
  have hN : ∀ (c : S138), c.f1 = ((i + (l.drop i).idxOf c.f0 : Nat) : Int) → (nextV l i c.f0 = -1 ∧ c.f1 = (l.length : Int)) ∨ (nextV l i c.f0 = c.f1 ∧ 0 ≤ c.f1 ∧ c.f1 < (l.length : Int)) := by
    intro c hc
    unfold nextV
    by_cases hm : c.f0 ∈ l.drop i
    · rw [if_pos hm]
      have := List.idxOf_lt_length_of_mem hm
      exact .inr ⟨hc.symm, by omega, by omega⟩
    · rw [if_neg hm, hc, List.idxOf_eq_length hm]
      exact .inl ⟨rfl, by omega⟩
  unfold hutchref27_worse.f
  refine Ev.bind (next_ev l i a.f0 hi hb) (Ev.bind (next_ev l i b.f0 hi hb) ?_)
  rcases hN a ha with ⟨a1, a2⟩ | ⟨a1, a2, a3⟩ <;> rcases hN b hbb with ⟨b1, b2⟩ | ⟨b1, b2, b3⟩
  · rw [a1, b1]
    refine Ev.from 1 fun k => ?_
    simp only [hutchref27_worse.j0, show ((-1 : Int) < 0) by omega, if_true, decide_true]
    congr 1
    unfold worseH
    rw [a2, b2]
    simp
  · rw [a1, b1]
    refine Ev.from 1 fun k => ?_
    have h0 : ¬ (b.f1 < 0) := by omega
    simp only [hutchref27_worse.j0, show ((-1 : Int) < 0) by omega, if_true, decide_eq_false h0, Bool.false_eq_true, if_false, decide_true]
    congr 1
    unfold worseH
    rw [a2, decide_eq_true (show (l.length : Int) > b.f1 by omega)]
    rfl
  · rw [a1, b1]
    refine Ev.from 1 fun k => ?_
    have h0 : ¬ (a.f1 < 0) := by omega
    simp only [hutchref27_worse.j0, if_neg h0, Bool.false_eq_true, if_false, show ((-1 : Int) < 0) by omega, if_true, decide_eq_false h0]
    congr 1
    unfold worseH
    rw [b2, decide_eq_false (show ¬ a.f1 > (l.length : Int) by omega), show (a.f1 == (l.length : Int)) = false from beq_eq_false_iff_ne.2 (by omega)]
    rfl
  · rw [a1, b1]
    refine Ev.from 1 fun k => ?_
    have h0 : ¬ (a.f1 < 0) := by omega
    have h1 : ¬ (b.f1 < 0) := by omega
    simp only [hutchref27_worse.j0, if_neg h0, Bool.false_eq_true, if_false, if_neg h1]
    congr 1
    unfold worseH
    rw [show (a.f1 == (l.length : Int)) = false from beq_eq_false_iff_ne.2 (by omega)]
    simp
/-- What a step does, told exactly. -/
theorem step_of (l : List Int) (n i : Nat) (hn : 1 ≤ n) (hi : i < l.length) (hll : l.length ≤ 4096) (f : List S138) (g : List Int) (hI : Inv l n i f) (hg : g.length ≤ i) (r : Bool × List S138 × List Int)
    (hr : best_ask.f f g (l.length : Int) ⟨rd l (i : Int), rd (nextOf l) (i : Int)⟩ (n : Int) = some r) :
    (r.1 = true ∧ l[i] ∈ keysOf f ∧ keysOf r.2.1 = keysOf f ∧ r.2.2 = g) ∨
    (r.1 = false ∧ l[i] ∉ keysOf f ∧ (keysOf f).length < n ∧ keysOf r.2.1 = keysOf f ++ [l[i]] ∧ r.2.2 = g) ∨
    (r.1 = false ∧ l[i] ∉ keysOf f ∧ (keysOf f).length = n ∧ keysOf r.2.1 = (keysOf f).erase (rd_T138 f (worstTo f (l.length : Int) f.length : Nat)).f0 ++ [l[i]] ∧ r.2.2 = g ++ [(rd_T138 f (worstTo f (l.length : Int) f.length : Nat)).f0]) := by
  have hli := hI.li
  have hle := hI.le
  obtain ⟨r', hr', _, _, hcase⟩ := step_is l n i hn hi hll f g hI hg
  rw [hr] at hr'
  obtain rfl := Option.some.inj hr'
  unfold best_ask.f at hr
  rw [if_pos ⟨by omega, by omega⟩, rd_at l i hi] at hr
  rcases heldAt_cases f l[i] with ⟨m, hm, hmi⟩ | hmi
  · rw [hmi, if_pos (by omega)] at hr
    obtain rfl := Option.some.inj hr
    rcases hcase with ⟨h1, h2, h3⟩ | ⟨h1, _⟩ | ⟨h1, _⟩
    · exact .inl ⟨rfl, h2, h3, rfl⟩
    · cases h1
    · cases h1
  · rw [hmi, if_neg (by omega)] at hr
    by_cases hfull : f.length = n
    · rw [if_pos (by omega), if_neg (by intro e; rw [e] at hfull; simp at hfull; omega)] at hr
      obtain rfl := Option.some.inj hr
      rcases hcase with ⟨h1, _⟩ | ⟨_, _, h3, _⟩ | ⟨h1, h2, h3, _⟩
      · cases h1
      · rw [keys_len] at h3; omega
      · refine .inr (.inr ⟨rfl, h2, h3, ?_, rfl⟩)
        have hw := worstTo_lt f (l.length : Int) f.length (by omega)
        rw [rd138_at f _ hw]
        show keysOf (f.eraseIdx (worstTo f (l.length : Int) f.length) ++ [⟨l[i], rd (nextOf l) (i : Int)⟩]) = _
        unfold keysOf
        rw [List.map_append, map_erase]
        congr 1
        have := erase_at (keysOf f) (worstTo f (l.length : Int) f.length) (by rw [keys_len]; exact hw) hI.nd
        rw [keys_at f _ hw] at this
        exact this.symm
    · rw [if_neg (by omega)] at hr
      obtain rfl := Option.some.inj hr
      rcases hcase with ⟨h1, _⟩ | ⟨_, h2, h3, h4⟩ | ⟨_, _, h3, _⟩
      · cases h1
      · exact .inr (.inl ⟨rfl, h2, h3, h4, rfl⟩)
      · rw [keys_len] at h3; omega
theorem keys_rd (f : List S138) (j : Nat) (hj : j < f.length) : rd (keysOf f) (j : Int) = (rd_T138 f (j : Int)).f0 := by
  rw [rd_at _ j (by rw [keys_len]; exact hj), rd138_at f j hj, keys_at f j hj]
theorem of_l1 (l : List Int) (n i : Nat) (_hn : 1 ≤ n) (hi : i < l.length) (hll : l.length ≤ 4096) (f : List S138) (g : List Int) (hI : Inv l n i f) (hx : l[i] ∉ keysOf f) (hg : g.length ≤ i) (hits : List Bool) (res : List Bool × List Int) (hpos : 0 < f.length)
    (hfin : Ev (fun k => hutchref27_Of.l0 k l (n : Int) ((keysOf f).erase (rd_T138 f (worstTo f (l.length : Int) f.length : Nat)).f0 ++ [l[i]]) ((i + 1 : Nat) : Int) hits (g ++ [(rd_T138 f (worstTo f (l.length : Int) f.length : Nat)).f0])) res) (d : Nat) :
    ∀ j, j ≤ f.length → f.length - j = d → Ev (fun k => hutchref27_Of.l1 k l (n : Int) (keysOf f) (i : Int) (rd_T138 f (worstTo f (l.length : Int) j : Nat)).f0 (j : Int) hits g) res := by
  have hfl : f.length ≤ 4096 := by have := hI.li; omega
  have hdrop : l.drop i = l[i] :: l.drop (i + 1) := List.drop_eq_getElem_cons hi
  have hnx : ∀ x ∈ f, x.f1 = ((i + 1 + (l.drop (i + 1)).idxOf x.f0 : Nat) : Int) := by
    intro x hxf
    have hne : x.f0 ≠ l[i] := fun e => hx (by unfold keysOf; exact List.mem_map.2 ⟨x, hxf, e⟩)
    rw [hI.nx x hxf, hdrop, idx_ne _ (fun e => hne e.symm)]
    congr 1
    omega
  induction d with
  | zero =>
    intro j hj hd
    obtain rfl : j = f.length := by omega
    have hw := worstTo_lt f (l.length : Int) f.length hpos
    have hle := List.length_erase_le (a := (rd_T138 f (worstTo f (l.length : Int) f.length : Nat)).f0) (l := keysOf f)
    rw [keys_len] at hle
    refine Ev.step (f := fun k => (hutchref12_Less.f k (keysOf f) (rd_T138 f (worstTo f (l.length : Int) f.length : Nat)).f0).bind fun t149 => (if g.length < 17592186044416 then (if t149.length < 17592186044416 then (hutchref27_Of.l0 k l (n : Int) (t149 ++ [l[i]]) ((i + 1 : Nat) : Int) hits (g ++ [(rd_T138 f (worstTo f (l.length : Int) f.length : Nat)).f0])) else (none)) else (none))) (fun k => ?_) (Ev.bind (less_ev _ _ (by rw [keys_len]; omega) hI.nd) ?_)
    · simp only [hutchref27_Of.l1]
      rw [if_neg (by rw [keys_len]; omega)]
      simp only [show (0 : Int) ≤ (i : Int) by omega, if_true, show (i : Int) < (l.length : Int) by omega, rd_at l i hi, w64_succ i (by omega)]
    · simp only [if_pos (show g.length < 17592186044416 by omega), if_pos (show ((keysOf f).erase (rd_T138 f (worstTo f (l.length : Int) f.length : Nat)).f0).length < 17592186044416 by omega)]
      exact hfin
  | succ d ih =>
    intro j hj hd
    have hjl : j < f.length := by omega
    have hw : worstTo f (l.length : Int) j < f.length := by have := worstTo_le f (l.length : Int) j; omega
    have hn' := ih (j + 1) (by omega) (by omega)
    have hwe := worse_ev l (i + 1) (by omega) (by omega) (rd_T138 f (j : Int)) (rd_T138 f (worstTo f (l.length : Int) j : Nat)) (by rw [rd138_at f j hjl]; exact hnx _ (List.getElem_mem _)) (by rw [rd138_at f _ hw]; exact hnx _ (List.getElem_mem _))
    refine Ev.step (f := fun k => (hutchref27_worse.f k l ((i + 1 : Nat) : Int) (rd_T138 f (j : Int)).f0 (rd_T138 f (worstTo f (l.length : Int) j : Nat)).f0).bind fun t147 => (if t147 = true then (hutchref27_Of.l1 k l (n : Int) (keysOf f) (i : Int) (rd_T138 f (j : Int)).f0 ((j + 1 : Nat) : Int) hits g) else (hutchref27_Of.l1 k l (n : Int) (keysOf f) (i : Int) (rd_T138 f (worstTo f (l.length : Int) j : Nat)).f0 ((j + 1 : Nat) : Int) hits g))) (fun k => ?_) (Ev.bind hwe ?_)
    · simp only [hutchref27_Of.l1]
      rw [if_pos (by rw [keys_len]; omega), if_pos (by omega), keys_rd f j hjl, w64_succ i (by omega), w64_succ j (by omega)]
    · have hst : worstTo f (l.length : Int) (j + 1) = if worseH (l.length : Int) (rd_T138 f (j : Int)) (rd_T138 f (worstTo f (l.length : Int) j : Nat)) = true then j else worstTo f (l.length : Int) j := rfl
      rw [hst] at hn'
      by_cases hh : worseH (l.length : Int) (rd_T138 f (j : Int)) (rd_T138 f (worstTo f (l.length : Int) j : Nat)) = true
      · rw [if_pos hh] at hn'; simp only [if_pos hh]; exact hn'
      · rw [if_neg hh] at hn'; simp only [if_neg hh]; exact hn'
theorem of_l0 (l : List Int) (n : Nat) (hn : 1 ≤ n) (hll : l.length ≤ 4096) (S : List Bool × List S138 × List Int) (hS : wholeTo l (n : Int) l.length = some S) (d : Nat) :
    ∀ i, i ≤ l.length → l.length - i = d → ∀ s, wholeTo l (n : Int) i = some s → Ev (fun k => hutchref27_Of.l0 k l (n : Int) (keysOf s.2.1) (i : Int) s.1 s.2.2) (S.1, S.2.2) := by
  induction d with
  | zero =>
    intro i hi hd s hs
    obtain rfl : i = l.length := by omega
    rw [hS] at hs
    obtain rfl := Option.some.inj hs
    refine Ev.from 1 fun k => ?_
    simp only [hutchref27_Of.l0]
    rw [if_neg (by omega)]
  | succ d ih =>
    intro i hi hd s hs
    have hil : i < l.length := by omega
    obtain ⟨s', hs', hI, hg⟩ := whole_inv l n hn hll i hi
    rw [hs] at hs'
    obtain rfl := Option.some.inj hs'
    obtain ⟨r, hr, _, _, _⟩ := step_is l n i hn hil hll s.2.1 s.2.2 hI hg
    have hs2 : wholeTo l (n : Int) (i + 1) = some (s.1 ++ [r.1], r.2.1, r.2.2) := by
      simp only [wholeTo]
      rw [hs, Option.bind_some, hr, Option.bind_some]
    have hn' := ih (i + 1) (by omega) (by omega) _ hs2
    have hsl := wholeTo_len _ _ _ _ hs
    have hkl : (keysOf s.2.1).length ≤ 4096 := by rw [keys_len]; have := hI.li; omega
    have hstep : ∀ res, Ev (fun k => if decide (l[i] ∈ keysOf s.2.1) = true then hutchref27_Of.l0 k l (n : Int) (keysOf s.2.1) ((i + 1 : Nat) : Int) (s.1 ++ [true]) s.2.2 else if ((keysOf s.2.1).length : Int) = (n : Int) then (if 0 < ((keysOf s.2.1).length : Int) then hutchref27_Of.l1 k l (n : Int) (keysOf s.2.1) (i : Int) (rd (keysOf s.2.1) 0) 0 (s.1 ++ [false]) s.2.2 else none) else hutchref27_Of.l0 k l (n : Int) (keysOf s.2.1 ++ [l[i]]) ((i + 1 : Nat) : Int) (s.1 ++ [false]) s.2.2) res →
        Ev (fun k => hutchref27_Of.l0 k l (n : Int) (keysOf s.2.1) (i : Int) s.1 s.2.2) res := by
      intro res hres
      refine Ev.step (f := fun k => (hutchref12_Has.f k (keysOf s.2.1) l[i]).bind fun t138 => (if t138 = true then (if s.1.length < 140737488355328 then (hutchref27_Of.l0 k l (n : Int) (keysOf s.2.1) ((i + 1 : Nat) : Int) (s.1 ++ [true]) s.2.2) else (none)) else (if s.1.length < 140737488355328 then (if ((keysOf s.2.1).length : Int) = (n : Int) then (if 0 < ((keysOf s.2.1).length : Int) then (hutchref27_Of.l1 k l (n : Int) (keysOf s.2.1) (i : Int) (rd (keysOf s.2.1) 0) 0 (s.1 ++ [false]) s.2.2) else (none)) else (if (keysOf s.2.1).length < 17592186044416 then (hutchref27_Of.l0 k l (n : Int) (keysOf s.2.1 ++ [l[i]]) ((i + 1 : Nat) : Int) (s.1 ++ [false]) s.2.2) else (none))) else (none)))) (fun k => ?_) (Ev.bind (has_ev (keysOf s.2.1) l[i] (by omega)) ?_)
      · simp only [hutchref27_Of.l0]
        rw [if_pos (by omega), if_pos (by omega), rd_at l i hil, w64_succ i (by omega)]
        rfl
      · simp only [if_pos (show s.1.length < 140737488355328 by omega), if_pos (show (keysOf s.2.1).length < 17592186044416 by omega)]
        exact hres
    rcases step_of l n i hn hil hll s.2.1 s.2.2 hI hg r hr with ⟨h1, h2, h3, h4⟩ | ⟨h1, h2, h3, h4, h5⟩ | ⟨h1, h2, h3, h4, h5⟩
    · simp only [h1, h3, h4] at hn'
      refine hstep _ ?_
      simp only [decide_eq_true h2, if_true]
      exact hn'
    · simp only [h1, h4, h5] at hn'
      refine hstep _ ?_
      simp only [decide_eq_false h2, Bool.false_eq_true, if_false, if_neg (show ¬ ((keysOf s.2.1).length : Int) = (n : Int) by omega)]
      exact hn'
    · simp only [h1, h4, h5] at hn'
      have hpos : 0 < s.2.1.length := by rw [keys_len] at h3; omega
      refine hstep _ ?_
      simp only [decide_eq_false h2, Bool.false_eq_true, if_false, if_pos (show ((keysOf s.2.1).length : Int) = (n : Int) by omega), if_pos (show 0 < ((keysOf s.2.1).length : Int) by omega)]
      have := of_l1 l n i hn hil hll s.2.1 s.2.2 hI h2 hg (s.1 ++ [false]) _ hpos hn' _ 0 (by omega) rfl
      have h0 : rd (keysOf s.2.1) 0 = (rd_T138 s.2.1 (worstTo s.2.1 (l.length : Int) 0 : Nat)).f0 := keys_rd s.2.1 0 hpos
      rw [h0]
      exact this
/-- The document's run is the run. -/
theorem of_ev (l : List Int) (n : Nat) (hn : 1 ≤ n) (hll : l.length ≤ 4096) (hw : ∀ x ∈ l, (Lit.int .u64 x).wf = true) : ∃ R : List Bool × List Int, best_whole.f l (n : Int) = some R ∧ Ev (fun k => hutchref27_Of.f k l (n : Int)) R ∧ R.1.length = l.length ∧ R.2.length ≤ l.length := by
  obtain ⟨S, hS, _, hg⟩ := whole_inv l n hn hll l.length (Nat.le_refl _)
  refine ⟨(S.1, S.2.2), ?_, ?_, wholeTo_len _ _ _ _ hS, hg⟩
  · unfold best_whole.f
    rw [if_neg (by rintro (h | h) <;> omega), if_pos hw, hS]
    rfl
  · exact of_l0 l n hn hll S hS _ 0 (by omega) rfl _ rfl
end Go.Proofs.Ytdjbpdahdakfjaa.BestPure
