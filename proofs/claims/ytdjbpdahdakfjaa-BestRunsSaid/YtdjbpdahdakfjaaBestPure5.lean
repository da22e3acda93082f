/- The runs of best are the document's: rows of bools, hits counted. -/
import Derived.Test.YtdjbpdahdakfjaaBestPure4
import Derived.Test.YtdjbpdahdakfjaaPBestx7
namespace Go.Proofs.Ytdjbpdahdakfjaa.BestPure
open Go.RowKit Go.Proofs.Ytdjbpdahdakfjaa.PBest Go.Proofs.YtdjbpdahdakfjaaW.PrintWords Go.Proofs.YtdjbpdahdakfjaaW.PrintLast Go.Proofs.YtdjbpdahdakfjaaH
theorem rdb_at (l : List Bool) (i : Nat) (h : i < l.length) : rdOf false l (i : Int) = l[i] := by simp [rdOf, List.getD_eq_getElem?_getD, List.getElem?_eq_getElem h]
theorem bools_l0 (l : List Bool) (hb : l.length ≤ 1000000) (d : Nat) : ∀ i : Nat, i ≤ l.length → l.length - i = d → Ev (fun k => hutchlaw27_bools.l0 k l l (l.length : Int) (i : Int)) true := by
  induction d with
  | zero =>
    intro i hi hd
    refine Ev.from 1 fun k => ?_
    simp only [hutchlaw27_bools.l0]
    rw [if_neg (by omega)]
  | succ d ih =>
    intro i hi hd
    have hil : i < l.length := by omega
    refine Ev.step (fun k => ?_) (ih (i + 1) (by omega) (by omega))
    simp only [hutchlaw27_bools.l0]
    rw [if_pos (by omega), if_pos (by omega), if_pos (by omega), if_pos (by omega), rdb_at l i hil, w64_succ i (by omega)]
    simp
theorem bools_ev (l : List Bool) (hb : l.length ≤ 1000000) : Ev (fun k => hutchlaw27_bools.f k l l) true := by
  refine Ev.congr (fun k => ?_) (bools_l0 l hb _ 0 (by omega) rfl)
  unfold hutchlaw27_bools.f
  rw [if_pos rfl]
  rfl
theorem same_l0 (l : List Int) (hb : l.length ≤ 1000000) (d : Nat) : ∀ i : Nat, i ≤ l.length → l.length - i = d → Ev (fun k => hutchref06_Same.l0 k l l (i : Int)) true := by
  induction d with
  | zero =>
    intro i hi hd
    refine Ev.from 1 fun k => ?_
    simp only [hutchref06_Same.l0]
    rw [if_neg (by omega)]
  | succ d ih =>
    intro i hi hd
    have hil : i < l.length := by omega
    refine Ev.step (fun k => ?_) (ih (i + 1) (by omega) (by omega))
    simp only [hutchref06_Same.l0]
    rw [if_pos (by omega), if_pos (by omega), if_pos (by omega), if_pos trivial, w64_succ i (by omega)]
theorem same_ev (l : List Int) (hb : l.length ≤ 1000000) : Ev (fun k => hutchref06_Same.f k l l) true := by
  refine Ev.congr (fun k => ?_) (same_l0 l hb _ 0 (by omega) rfl)
  unfold hutchref06_Same.f
  rw [if_pos rfl]
  rfl
theorem hits_l0 (l : List Bool) (hb : l.length ≤ 1000000) (d : Nat) : ∀ i : Nat, i ≤ l.length → l.length - i = d → Ev (fun k => hutchref27_Hits.l0 k l (((l.take i).count true : Nat) : Int) (i : Int)) ((l.count true : Nat) : Int) := by
  induction d with
  | zero =>
    intro i hi hd
    obtain rfl : i = l.length := by omega
    refine Ev.from 1 fun k => ?_
    simp only [hutchref27_Hits.l0]
    rw [if_neg (by omega), List.take_length]
  | succ d ih =>
    intro i hi hd
    have hil : i < l.length := by omega
    refine Ev.step (fun k => ?_) (ih (i + 1) (by omega) (by omega))
    have hc : (l.take i).count true ≤ i := Nat.le_trans List.count_le_length (by rw [List.length_take]; omega)
    have ht : (l.take (i + 1)).count true = (l.take i).count true + (if l[i] = true then 1 else 0) := by
      rw [List.take_succ_eq_append_getElem hil, List.count_append]
      cases l[i] <;> simp
    simp only [hutchref27_Hits.l0]
    rw [if_pos (by omega), if_pos (by omega), rdb_at l i hil, w64_succ i (by omega), w64_succ _ (by omega), ht]
    cases l[i] <;> simp
theorem hits_ev (l : List Bool) (hb : l.length ≤ 1000000) : Ev (fun k => hutchref27_Hits.f k l) ((l.count true : Nat) : Int) := hits_l0 l hb _ 0 (by omega) rfl
theorem runs_law (l : List Int) (a m : Int) (hw : ∀ x ∈ l, (Lit.int .u64 x).wf = true) (hm : (Lit.int .u8 m).wf = true) : Ev (fun k => hutchlaw27_BestRuns.f k l a m) true := by
  have hm' : 0 ≤ m ∧ m < 256 := by
    have := hm
    have e1 : IntKind.u8.min = 0 := by decide
    have e2 : IntKind.u8.max = 255 := by decide
    simp [Lit.wf] at this
    omega
  unfold hutchlaw27_BestRuns.f
  simp only [if_neg (Classical.not_not.2 hm')]
  by_cases hl : l.length > 100
  · simp only [if_pos hl]
    exact Ev.bind alive_ev (Ev.now true)
  · simp only [if_neg hl]
    by_cases ha : a < 1
    · have : best_whole.f l a = some ([], []) := by unfold best_whole.f; rw [if_pos (.inl ha)]
      rw [this]
      simp only [Option.bind_some, if_pos ha]
      exact Ev.bind alive_ev (Ev.now true)
    · obtain ⟨n, rfl⟩ := Int.eq_ofNat_of_zero_le (show 0 ≤ a by omega)
      obtain ⟨R, hR, hO, h1, h2⟩ := of_ev l n (by omega) (by omega) hw
      rw [hR]
      simp only [Option.bind_some, if_neg ha]
      refine Ev.bind hO (Ev.bind (bools_ev R.1 (by omega)) (Ev.bind (same_ev R.2 (by omega)) (Ev.bind (hits_ev R.1 (by omega)) ?_)))
      have ht : R.1.take (min R.1.length m.toNat) = R.1.take m.toNat := by
        by_cases h : R.1.length ≤ m.toNat
        · rw [Nat.min_eq_left h, List.take_of_length_le h, List.take_length]
        · rw [Nat.min_eq_right (by omega)]
      rw [ht]
      refine Ev.bind (bools_ev _ (by rw [List.length_take]; omega)) (Ev.bind alive_ev ?_)
      simp only [and_self, if_true]
      exact Ev.now true
end Go.Proofs.Ytdjbpdahdakfjaa.BestPure
