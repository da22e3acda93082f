/- BestRuns: the law is walked by hand. -/
import Derived.Test.YtdjbpdahdakfjaaPBestx6
namespace Go.Proofs.Ytdjbpdahdakfjaa.PBest
open Go.RowKit Go.Proofs.YtdjbpdahdakfjaaH Go.Proofs.YtdjbpdahdakfjaaW.PrintWords Go.Proofs.YtdjbpdahdakfjaaW.PrintLast Go.Proofs.YtdjbpdahdakfjaaW.PrintMore
attribute [local go_sem] max2_int min2_int max_two min_two max_three min_three max_four min_four   -- for this text's walks alone
set_option linter.unusedVariables false
set_option linter.unusedSimpArgs false
def hutchlaw27_BestRuns.f (k : Nat) (l0 : List Int) (a1 : Int) (a2 : Int) : Option (Bool) :=
  if ¬ (0 ≤ a2 ∧ a2 < 256) then none else if l0.length > 100 then (hutchlaw27_alive.f k).bind fun t => if t = true then some true else none
  else (best_whole.f l0 a1).bind fun R =>
    if a1 < 1 then (hutchlaw27_alive.f k).bind fun t => if t = true ∧ R.1.length = 0 ∧ R.2.length = 0 then some true else none
    else (hutchref27_Of.f k l0 a1).bind fun T => (hutchlaw27_bools.f k R.1 T.1).bind fun t1 => (hutchref06_Same.f k R.2 T.2).bind fun t2 => (hutchref27_Hits.f k T.1).bind fun t3 =>
      (hutchlaw27_bools.f k (R.1.take a2.toNat) (T.1.take (min T.1.length a2.toNat))).bind fun t4 => (hutchlaw27_alive.f k).bind fun t5 =>
        if t1 = true ∧ t2 = true ∧ ((R.1.count true : Nat) : Int) = t3 ∧ t4 = true ∧ t5 = true then some true else none
/-- What a straight region owes: it goes on. -/
def straight (Q : Exit → Act → World → Prop) : Exit → Act → World → Prop
  | .normal, a, w => Q .normal a w
  | _, _, _ => False
theorem wp_straight {P : Program} {c : Code} {Q : Exit → Act → World → Prop} {a : Act} {w : World} (h : c.wp P (straight Q) a w) : c.wp P Q a w :=
  Code.wp_mono (fun e a w h => by cases e <;> first | exact h | exact h.elim) h
theorem runs_box6 {w w1 : World} {a2 : Int} (hb : Below ((w.alloc (.cells #[.int .u8 a2] 5)).alloc (.cells #[.bool false] 4)).heap.size ((w.alloc (.cells #[.int .u8 a2] 5)).alloc (.cells #[.bool false] 4)) w1) : w1.heap[w.heap.size + 1]? = some (.cells #[.bool false] 4 (0, 0)) := by
  have h0 : ((w.alloc (.cells #[.int .u8 a2] 5)).alloc (.cells #[.bool false] 4)).heap[w.heap.size + 1]? = some (.cells #[.bool false] 4 (0, 0)) := by
    have := blk_new (w.alloc (.cells #[.int .u8 a2] 5)) (.cells #[.bool false] 4)
    simpa using this
  exact (hb.block _ (blk_lt h0)).trans h0
attribute [local go_sem] Oper.semAt_some
set_option maxRecDepth 1000000 in
set_option maxHeartbeats 20000000 in
theorem hutchlaw27_BestRuns.calls (k : Nat) (A0 : Option Addr) (c0 : Nat) (l0 : List Int) (a1 : Int) (a2 : Int) (r : Bool) (w : World) (hr0 : Kd.C (Kd.int .u64) w A0 l0.length l0) (hc0 : l0.length ≤ c0) (h : hutchlaw27_BestRuns.f k l0 a1 a2 = some r) :
    Calls Try.prog 5 #[.slice A0 l0.length c0, .int .i64 a1, .int .u8 a2] w fun e w' => e = .returned (.bool r) ∧ Below w.heap.size w w' := by
  unfold hutchlaw27_BestRuns.f at h
  have HR0 := Aside0.mk hr0
  have HC0 := Aside0.mk hc0
  by_cases ha : ¬ (0 ≤ a2 ∧ a2 < 256)
  · rw [if_pos ha] at h
    exact absurd h (by simp)
  rw [if_neg ha] at h
  obtain ⟨ha0, ha1⟩ := Classical.not_not.1 ha
  clear ha
  obtain ⟨most, rfl⟩ := Int.eq_ofNat_of_zero_le ha0
  have hwm : IntKind.i64.wrap (most : Int) = (most : Int) := by rw [IntKind.wrap_i64]; omega
  rw [Int.toNat_natCast] at h
  by_cases hl : l0.length > 100
  · rw [if_pos hl] at h
    obtain ⟨t, ht, h⟩ := Option.bind_eq_some_iff.1 h
    by_cases htt : t = true
    · rw [if_pos htt] at h
      obtain rfl := Option.some.inj h
      subst htt
      have HA := Aside0.mk ht
      have b1 : decide ((100 : Int) < (l0.length : Int)) = true := decide_eq_true (by omega)
      have b2 : decide (100 < l0.length) = true := decide_eq_true (by omega)
      clear h ht hl hr0 hc0
      go_enter Try.func5, Try.ntmps5
      go_wp2_with (go_at_call 27; go_loud (refine (hutchlaw27_alive.calls k true _ HA.out).mono ?_; rintro e w1 ⟨rfl, hb⟩; have HB := Aside0.mk hb; have hk6 := runs_box6 hb; have hc6 : w1.cell? ⟨w.heap.size + 1, 0, none⟩ = some (.bool false) := (blk_cell hk6 0).trans rfl; have hf6 := blk_frozen hk6 0; clear hb hk6))
      refine ⟨rfl, .bool true, ?_, rfl, ?_⟩
      · simp only [results]
        go_simp
      · exact (((below_alloc (below_alloc (Below.refl w.heap.size w) (.cells #[.int .u8 (most : Int)] 5)) (.cells #[.bool false] 4)).trans (HB.out.mono (by simp; omega))).setCell (p := ⟨w.heap.size + 1, 0, none⟩) (by simp) _)
    · rw [if_neg htt] at h
      exact absurd h (by simp)
  · rw [if_neg hl] at h
    obtain ⟨R, hR, h⟩ := Option.bind_eq_some_iff.1 h
    have hrun : best_Run.f l0 a1 = some R.1 := by unfold best_Run.f; rw [hR]; rfl
    have hgone : best_Gone.f l0 a1 = some R.2 := by unfold best_Gone.f; rw [hR]; rfl
    have hhits : best_Hits.f l0 a1 = some ((R.1.count true : Nat) : Int) := by unfold best_Hits.f; rw [hR]; rfl
    have hlen := best_whole_len hR
    have HRUN := Aside0.mk hrun
    have HGONE := Aside0.mk hgone
    have HHITS := Aside0.mk hhits
    have HWH := Aside0.mk hR
    have HH := Aside0.mk h
    have b1 : decide ((100 : Int) < (l0.length : Int)) = false := decide_eq_false (by omega)
    have b2 : decide (100 < l0.length) = false := decide_eq_false (by omega)
    have HBB := Aside0.mk (below_alloc (below_alloc (Below.refl w.heap.size w) (.cells #[.int .u8 (most : Int)] 5)) (.cells #[.bool false] 4))
    have hc5 : ((w.alloc (.cells #[.int .u8 (most : Int)] 5)).alloc (.cells #[.bool false] 4)).heap[w.heap.size]? = some (.cells #[.int .u8 (most : Int)] 5 (0, 0)) := by
      rw [Below.heap_alloc _ _ _ (by simp)]
      exact blk_new _ _
    have hc6 : ((w.alloc (.cells #[.int .u8 (most : Int)] 5)).alloc (.cells #[.bool false] 4)).heap[w.heap.size + 1]? = some (.cells #[.bool false] 4 (0, 0)) := by
      have := blk_new (w.alloc (.cells #[.int .u8 (most : Int)] 5)) (.cells #[.bool false] 4)
      simpa using this
    have HC5 := Aside0.mk hc5
    have HC6 := Aside0.mk hc6
    have HR00 := Aside0.mk (Kd.C_below HR0.out HBB.out)
    clear hl hr0 hc0 hR h hrun hgone hhits hc5 hc6
    have hnf : ∀ (Bs : Nat) (W : World), (binOp .eql 46 (.func (.func 72) #[] #[.pointer (some ⟨Bs, 0, none⟩)]) .nilFunc).run Try.prog W = .ok (.bool false) W := fun Bs W => by kernel_rfl
    obtain ⟨i0, hi0, hzz⟩ := Option.map_eq_some_iff.1 info4
    simp only [Prod.mk.injEq] at hzz
    obtain ⟨hz0, hz1, hz2⟩ := hzz
    have HI0 := Aside0.mk hi0
    have HZ0 := Aside0.mk hz0
    have HZ1 := Aside0.mk hz1
    have HZ2 := Aside0.mk hz2
    clear hi0 hz0 hz1 hz2
    refine (callsIn_wide (n := 5)).1 ?_
    refine callsIn_of_wp_marks Try.func5 rfl trivial ?_ rfl
    simp only [Try.ntmps5, List.size_toArray, List.length_cons, List.length_nil, Nat.reduceAdd, Nat.reduceSub, Array.replicate_succ, Array.replicate_zero, List.push_toArray, List.append_toArray, List.nil_append, List.cons_append]
    refine wpIn_wide.2 ?_
    go_wp2_with (first
      | (go_at_call 28; go_loud (refine (best_Run.calls _ _ l0 a1 _ _ HR00.out HC0.out HRUN.out).mono ?_; rintro e w1 ⟨va, rfl, hO, hB⟩; have HO1 := Aside0.mk hO; have HB1 := Aside0.mk hB; clear hO hB))
      | (go_at_call 29; go_loud (refine (best_Gone.calls _ _ l0 a1 _ _ (Kd.C_below HR00.out HB1.out) HC0.out HGONE.out).mono ?_; rintro e w2 ⟨vg, rfl, hO, hB⟩; have HO2 := Aside0.mk hO; have HB2 := Aside0.mk hB; clear hO hB))
      | (go_at_call 30; go_loud (refine (best_Hits.calls _ _ l0 a1 _ _ (Kd.C_below (Kd.C_below HR00.out HB1.out) HB2.out) HC0.out HHITS.out).mono ?_; rintro e w3 ⟨rfl, hB⟩; have HB3 := Aside0.mk hB; clear hB))
      | (go_at_call 31; go_loud (refine (best_All.calls _ _ l0 a1 _ _ (Kd.C_below (Kd.C_below (Kd.C_below HR00.out HB1.out) HB2.out) HB3.out) HC0.out HWH.out).mono ?_; rintro e w4 ⟨Bs, A, c, rfl, hbs, hr, hB⟩; have HBS := Aside0.mk hbs; have HROW := Aside0.mk hr; have HB4 := Aside0.mk hB; clear hbs hr hB)))
    -- what lies when the loop begins
    obtain ⟨Aa, ca, rfl⟩ := Kd.R_slice HO1.out
    obtain ⟨Ag, cg, rfl⟩ := Kd.R_slice HO2.out
    have hB04 : Below ((w.alloc (.cells #[.int .u8 (most : Int)] 5)).alloc (.cells #[.bool false] 4)).heap.size ((w.alloc (.cells #[.int .u8 (most : Int)] 5)).alloc (.cells #[.bool false] 4)) w4 :=
      ((HB1.out.trans (HB2.out.mono HB1.out.size)).trans (HB3.out.mono (Nat.le_trans HB1.out.size HB2.out.size))).trans (HB4.out.mono (Nat.le_trans (Nat.le_trans HB1.out.size HB2.out.size) HB3.out.size))
    have HB04 := Aside0.mk hB04
    have hk5 := (hB04.block _ (blk_lt HC5.out)).trans HC5.out
    have hk6 := (hB04.block _ (blk_lt HC6.out)).trans HC6.out
    have HK5 := Aside0.mk hk5
    have HK6 := Aside0.mk hk6
    obtain ⟨hits, hhd⟩ : ∃ hits, hits = R.1 := ⟨_, rfl⟩
    have HHD := Aside0.mk hhd
    rw [← hhd] at HBS HROW hlen
    have h5lt : w.heap.size < w4.heap.size := blk_lt hk5
    have h6lt : w.heap.size + 1 < w4.heap.size := blk_lt hk6
    have bO : Boxed (w4.alloc (.cells #[.slice none 0 0] 41)) w4.heap.size 41 (.slice none 0 0) := Boxed.new w4 41 (.slice none 0 0)
    have hro : Fence.wide.round = none := rfl
    have hseq : SeqStopsK Fence.wide (5 - 1) Try.prog 72 #[.pointer (some ⟨Bs, 0, none⟩)] (fun x : Int × Bool => #[Value.int .i64 x.1, Value.bool x.2]) (KeepsBox w4.heap.size) (fun ys => ys = placesOf hits) (fun pre => ∃ k, pre = (placesOf hits).take k) hits.length (w4.alloc (.cells #[.slice none 0 0] 41)) := fun l J Jx W hW hJ hJx hY h0 => by
      have hcell : W.cell? ⟨Bs, 0, none⟩ = some (.slice A hits.length c) := pw_cell_below hW (pw_cell_below (below_alloc (Below.refl _ _) _) HBS.out)
      have hro0 := HROW.out.alloc (.cells #[.slice none 0 0] 41)
      have hro' := own_move hro0 (fun i hi => hW.block i (own_lt hro0 i hi))
      have hbx : boxRow W w4.heap.size = none := by
        unfold boxRow
        rw [hW.cell (p := ⟨w4.heap.size, 0, none⟩) bO.lt, bO.cell]
        rfl
      exact all1_in 4 l Bs w4.heap.size _ A c hits (by decide) (by omega) J Jx W hJ hY hcell hro' (fun i hi => by
        refine ⟨?_, by rw [hbx]; simp⟩
        have := own_lt HROW.out i hi
        omega) h0
    obtain ⟨I, hI⟩ : ∃ I : List (Int × Bool) → World → Prop, I = fun pre W => ((∃ v, Boxed W w4.heap.size 41 v ∧ W.ownsRow w4.heap.size 4 1 v pre.length (pre.map fun x => Value.bool x.2) ∧ True) ∧ Below w4.heap.size w4 W) ∧ (∀ j : Nat, (h : j < pre.length) → pre[j].1 = (j : Int)) ∧ pre.length ≤ most := ⟨_, rfl⟩
    obtain ⟨Ix, hIx⟩ : ∃ Ix : Code → List (Int × Bool) → World → Prop, Ix = (fun c pre W => (c = .exit 0 ∧ ∃ pre' x, pre = pre' ++ [x] ∧ I pre' W ∧ most ≤ pre'.length) ∨ (c = .ret ∧ ∃ pre' x, pre = pre' ++ [x] ∧ x.1 ≠ (pre'.length : Int))) := ⟨_, rfl⟩
    have hIO : OwnFrom (w4.alloc (.cells #[.slice none 0 0] 41)).heap.size I := by
      rw [hI]
      exact OwnFrom.and (OwnFrom.and (Own.from (holdsRow_own w4.heap.size w4.heap.size 41 4 1 (fun pre : List (Int × Bool) => pre.length) (fun pre => pre.map fun x => Value.bool x.2) (fun _ _ => True)) _) (ownFrom_below (Nat.le_refl _) (by simp))) (fun _ _ _ _ hs _ _ => hs)
    have hIXO : ∀ c, OwnFrom (w4.alloc (.cells #[.slice none 0 0] 41)).heap.size (Ix c) := by
      rw [hIx]
      intro c s W W' row hs hg hr
      rcases hs with ⟨h1, pre', x, h2, h3, h4⟩ | h
      · exact .inl ⟨h1, pre', x, h2, hIO pre' W W' row h3 hg hr, h4⟩
      · exact .inr h
    have HIXD := Aside0.mk hIx
    clear hIx
    generalize hQ : Exit.inBlock 0 _ = Q
    have HQ := Aside0.mk hQ
    have HID := Aside0.mk hI
    clear hQ hI
    have tail : ∀ (D : Nat) (W : World) (v : Value), w4.heap.size ≤ D → W.heap[D]? = some (.deferred (some [])) → Boxed W w4.heap.size 41 v → W.ownsRow w4.heap.size 4 1 v (hits.take most).length ((hits.take most).map Value.bool) → Below w4.heap.size w4 W →
        Q .normal { tmps := #[.slice A0 l0.length c0, .int .i64 a1, .int .u8 (most : Int), undef, undef, .pointer (some ⟨w.heap.size, 0, none⟩), .pointer (some ⟨w.heap.size + 1, 0, none⟩), .slice Aa R.1.length ca, .slice Ag R.2.length cg, .int .i64 (R.1.count true : Nat), .func (.func 72) #[] #[.pointer (some ⟨Bs, 0, none⟩)], .pointer (some ⟨w4.heap.size, 0, none⟩), undef, undef, undef, .slice A0 l0.length c0, .int .i64 (l0.length : Int), .bool false, undef, .slice A0 l0.length c0, .int .i64 a1, .slice Aa R.1.length ca, .slice A0 l0.length c0, .int .i64 a1, .slice Ag R.2.length cg, .slice A0 l0.length c0, .int .i64 a1, .int .i64 (R.1.count true : Nat), .slice A0 l0.length c0, .int .i64 a1, .func (.func 72) #[] #[.pointer (some ⟨Bs, 0, none⟩)], .func (.func 72) #[] #[.pointer (some ⟨Bs, 0, none⟩)], .bool false, .func (.func 72) #[] #[.pointer (some ⟨Bs, 0, none⟩)], undef, undef, undef, undef, undef, undef, undef, undef, undef, undef, undef, undef, undef, undef, undef, undef, undef, undef, undef, undef, undef, undef, undef, undef, undef, undef, undef, undef, undef, undef, undef, undef, undef, undef, undef, undef, undef, undef, undef, undef, undef, undef, undef, undef, undef, undef, undef, undef, undef, undef, undef, undef, undef, undef, undef, undef, undef, undef, undef, undef, undef, undef, undef, undef, undef, undef, undef], defers := [{ target := .collected D, args := #[] }] } W := by
      intro D W v hD hK hv hrow hB
      rw [← HQ.out]
      obtain ⟨A5, c5, rfl⟩ := own_slice hrow
      have hc := hv.cell
      have hk5' := (hB.block _ h5lt).trans HK5.out
      have hk6' := (hB.block _ h6lt).trans HK6.out
      have hc5 : W.cell? ⟨w.heap.size, 0, none⟩ = some (.int .u8 (most : Int)) := (blk_cell hk5' 0).trans rfl
      have hc6 : W.cell? ⟨w.heap.size + 1, 0, none⟩ = some (.bool false) := (blk_cell hk6' 0).trans rfl
      have hf6 := blk_frozen hk6' 0
      by_cases hs : a1 < 1
      · have e1 : decide (a1 < 1) = true := decide_eq_true hs
        have hh := HH.out
        rw [if_pos hs] at hh
        obtain ⟨t, ht, hh⟩ := Option.bind_eq_some_iff.1 hh
        by_cases htt : t = true ∧ R.1.length = 0 ∧ R.2.length = 0
        · rw [if_pos htt] at hh
          obtain rfl := Option.some.inj hh
          obtain ⟨rfl, hr1, hr2⟩ := htt
          have HAL := Aside0.mk ht
          have hR1 : R.1 = [] := List.eq_nil_of_length_eq_zero hr1
          have hcnt : List.count true R.1 = 0 := by rw [hR1]; rfl
          have hbl : (hits.take most).length = 0 := by rw [HHD.out, hR1]; simp
          rw [hr1, hr2, hcnt]
          rw [hbl] at hc
          clear hh ht hs hr1 hr2 hR1 hcnt
          dsimp only
          go_wp2_with (go_at_call 27; go_loud (refine (hutchlaw27_alive.calls k true _ HAL.out).mono ?_; rintro e w6 ⟨rfl, hb⟩; have HB6 := Aside0.mk hb; have hk6'' := (hb.block _ (blk_lt hk6')).trans hk6'; have HK66 := Aside0.mk hk6''; have hc66 : w6.cell? ⟨w.heap.size + 1, 0, none⟩ = some (.bool false) := (blk_cell hk6'' 0).trans rfl; have hf66 := blk_frozen hk6'' 0; clear hb hk6''))
          have hDlt : D < W.heap.size := (Array.getElem?_eq_some_iff.1 hK).1
          have hD6 : D ≠ w.heap.size + 1 := by omega
          have hKD : (w6.setCell ⟨w.heap.size + 1, 0, none⟩ (.bool true)).heap[D]? = some (.deferred (some [])) := (Below.heap_setCell w6 ⟨w.heap.size + 1, 0, none⟩ _ D hD6).trans ((HB6.out.block D hDlt).trans hK)
          have hbx := (show Boxed w6 (w.heap.size + 1) 4 (.bool false) from HK66.out).set (.bool true)
          have hcr : ((w6.setCell ⟨w.heap.size + 1, 0, none⟩ (.bool true)).putObj D (.deferred none)).cell? ⟨w.heap.size + 1, 0, none⟩ = some (.bool true) := by
            have : ((w6.setCell ⟨w.heap.size + 1, 0, none⟩ (.bool true)).putObj D (.deferred none)).heap[w.heap.size + 1]? = some (.cells #[.bool true] 4 (0, 0)) := (World.putObj_heap_other (fun e => hD6 e.symm)).trans hbx
            exact (blk_cell this 0).trans rfl
          refine ⟨by simp, .inl ⟨_, _, rfl, run_takeDeferred hKD, ?_⟩⟩
          refine ⟨.bool true, ?_, rfl, ?_⟩
          · simp only [results]
            go_simp
          · have s0 : w.heap.size ≤ W.heap.size := by have := hB.size; omega
            have q1 : Below w.heap.size w w4 := HBB.out.trans (HB04.out.mono HBB.out.size)
            have q2 : Below w.heap.size w W := q1.trans (hB.mono q1.size)
            have q3 : Below w.heap.size w w6 := q2.trans (HB6.out.mono s0)
            exact (q3.setCell (p := ⟨w.heap.size + 1, 0, none⟩) (Nat.le_succ _) _).trans (belowK_b (w := w) (Nat.le_refl _) _ D _ _ (by omega) hKD rfl rfl)
        · rw [if_neg htt] at hh
          exact absurd hh (by simp)
      · have e1 : decide (a1 < 1) = false := decide_eq_false hs
        have hh := HH.out
        rw [if_neg hs] at hh
        obtain ⟨T, hT, hh⟩ := Option.bind_eq_some_iff.1 hh
        obtain ⟨t1, ht1, hh⟩ := Option.bind_eq_some_iff.1 hh
        obtain ⟨t2, ht2, hh⟩ := Option.bind_eq_some_iff.1 hh
        obtain ⟨t3, ht3, hh⟩ := Option.bind_eq_some_iff.1 hh
        obtain ⟨t4, ht4, hh⟩ := Option.bind_eq_some_iff.1 hh
        obtain ⟨t5, ht5, hh⟩ := Option.bind_eq_some_iff.1 hh
        by_cases htt : t1 = true ∧ t2 = true ∧ ((R.1.count true : Nat) : Int) = t3 ∧ t4 = true ∧ t5 = true
        · rw [if_pos htt] at hh
          obtain rfl := Option.some.inj hh
          obtain ⟨rfl, rfl, rfl, rfl, rfl⟩ := htt
          have HTT := Aside0.mk hT
          have HT1 := Aside0.mk ht1
          have HT2 := Aside0.mk ht2
          have HT3 := Aside0.mk ht3
          have HT4 := Aside0.mk ht4
          have HT5 := Aside0.mk ht5
          have q1 : Below w.heap.size w w4 := HBB.out.trans (HB04.out.mono HBB.out.size)
          have q2 : Below w.heap.size w W := q1.trans (hB.mono q1.size)
          have HQ2 := Aside0.mk q2
          have HBT := Aside0.mk hB
          obtain ⟨T1, T2⟩ := T
          clear hh hT ht1 ht2 ht3 ht4 ht5 hs q1 q2
          dsimp only
          go_wp2_with (go_at_call 32; go_loud (refine (hutchref27_Of.calls k A0 c0 l0 a1 T1 T2 _ (Kd.C_below HR0.out HQ2.out) HC0.out HTT.out).mono ?_; rintro e w6 ⟨vt1, vt2, rfl, hO1, hO2, hb⟩; obtain ⟨At1, ct1, rfl⟩ := Kd.R_slice hO1; obtain ⟨At2, ct2, rfl⟩ := Kd.R_slice hO2; have HOT1 := Aside0.mk hO1; have HOT2 := Aside0.mk hO2; have HB6 := Aside0.mk hb; clear hO1 hO2 hb))
          have hbx0 : (w6.alloc (.cells #[.slice At1 T1.length ct1, .slice At2 T2.length ct2] 49)).cell? ⟨w6.heap.size, 0, none⟩ = some (.slice At1 T1.length ct1) := (blk_cell (blk_new _ _) 0).trans rfl
          have hbx1 : (w6.alloc (.cells #[.slice At1 T1.length ct1, .slice At2 T2.length ct2] 49)).cell? ⟨w6.heap.size, 1, none⟩ = some (.slice At2 T2.length ct2) := (blk_cell (blk_new _ _) 1).trans rfl
          have hal := below_alloc (Below.refl w6.heap.size w6) (.cells #[.slice At1 T1.length ct1, .slice At2 T2.length ct2] 49)
          have CA := Aside0.mk (Kd.C_below (Kd.C_below (Kd.C_below (Kd.C_below (Kd.C_below (Kd.C_below (Kd.R_reads' HO1.out).2.2 HB2.out) HB3.out) HB4.out) HBT.out) HB6.out) hal)
          have CG := Aside0.mk (Kd.C_below (Kd.C_below (Kd.C_below (Kd.C_below (Kd.C_below (Kd.R_reads' HO2.out).2.2 HB3.out) HB4.out) HBT.out) HB6.out) hal)
          have CT1 := Aside0.mk (Kd.C_below (Kd.R_reads' HOT1.out).2.2 hal)
          have CT2 := Aside0.mk (Kd.C_below (Kd.R_reads' HOT2.out).2.2 hal)
          have hWb : Below W.heap.size W (w6.alloc (.cells #[.slice At1 T1.length ct1, .slice At2 T2.length ct2] 49)) := HB6.out.trans (hal.mono HB6.out.size)
          have hcb := pw_cell_below hWb hc
          have hc5b := pw_cell_below hWb hc5
          have hc6b := pw_cell_below hWb hc6
          have HK6B := Aside0.mk ((hWb.block _ (blk_lt hk6')).trans hk6')
          have hbR : Kd.R Kd.bool 4 W w4.heap.size (fun _ => True) (.slice A5 (hits.take most).length c5) (hits.take most) := Kd.R_of_own (by simpa [encs] using hrow) (fun _ _ => trivial)
          have CB := Aside0.mk (Kd.C_below (Kd.R_reads' hbR).2.2 hWb)
          have HLB := Aside0.mk (Kd.R_reads' hbR).2.1
          have HWB := Aside0.mk hWb
          clear hal hWb hbR
          obtain ⟨m, hmd⟩ : ∃ m, m = min T1.length most := ⟨_, rfl⟩
          have hmin : (if most < T1.length then (most : Int) else (T1.length : Int)) = (m : Int) := by rw [hmd]; split <;> omega
          have hmT : m ≤ T1.length := by omega
          have hmc : m ≤ ct1 := Nat.le_trans hmT (Kd.R_reads' HOT1.out).2.1
          have hmc2 : (m : Int) ≤ (ct1 : Int) := by omega
          have hm0 : (0 : Int) ≤ (m : Int) := by omega
          have hlT : (T1.take m).length = m := by rw [List.length_take]; omega
          have HLT := Aside0.mk hlT
          have ht4 := HT4.out
          rw [← hmd, ← HHD.out] at ht4
          have HT4B := Aside0.mk ht4
          have CTM := Aside0.mk (Kd.C_take CT1.out hmT)
          have HTC := Aside0.mk (show (T1.take m).length ≤ ct1 by rw [hlT]; exact hmc)
          clear hmd hlT ht4
          have hB6s := HB6.out.size
          have hWs := HBT.out.size
          have hS0 : (w6.alloc (.cells #[.slice At1 T1.length ct1, .slice At2 T2.length ct2] 49)).cell? ⟨w4.heap.size, 0, none⟩ = some (.slice A5 (hits.take most).length c5) ∧ (w6.alloc (.cells #[.slice At1 T1.length ct1, .slice At2 T2.length ct2] 49)).cell? ⟨w6.heap.size, 0, none⟩ = some (.slice At1 T1.length ct1) ∧ (w6.alloc (.cells #[.slice At1 T1.length ct1, .slice At2 T2.length ct2] 49)).cell? ⟨w6.heap.size, 1, none⟩ = some (.slice At2 T2.length ct2) ∧ (w6.alloc (.cells #[.slice At1 T1.length ct1, .slice At2 T2.length ct2] 49)).cell? ⟨w.heap.size, 0, none⟩ = some (.int .u8 (most : Int)) := ⟨hcb, hbx0, hbx1, hc5b⟩
          refine wp_straight ?_
          go_region_held3 (fun w' => w'.cell? ⟨w4.heap.size, 0, none⟩ = some (.slice A5 (hits.take most).length c5) ∧ w'.cell? ⟨w6.heap.size, 0, none⟩ = some (.slice At1 T1.length ct1) ∧ w'.cell? ⟨w6.heap.size, 1, none⟩ = some (.slice At2 T2.length ct2) ∧ w'.cell? ⟨w.heap.size, 0, none⟩ = some (.int .u8 (most : Int)))
            (first | exact hS0 | exact ⟨pw_cell_below HB8.out hS0.1, pw_cell_below HB8.out hS0.2.1, pw_cell_below HB8.out hS0.2.2.1, pw_cell_below HB8.out hS0.2.2.2⟩ | exact ⟨(World.cell?_setCell_far _ _ _ _ (by show w.heap.size + 1 ≠ w4.heap.size; omega)).trans (pw_cell_below HB8.out hS0.1), (World.cell?_setCell_far _ _ _ _ (by show w.heap.size + 1 ≠ w6.heap.size; omega)).trans (pw_cell_below HB8.out hS0.2.1), (World.cell?_setCell_far _ _ _ _ (by show w.heap.size + 1 ≠ w6.heap.size; omega)).trans (pw_cell_below HB8.out hS0.2.2.1), (World.cell?_setCell_far _ _ _ _ (by show w.heap.size + 1 ≠ w.heap.size; omega)).trans (pw_cell_below HB8.out hS0.2.2.2)⟩)
            (first
            | (refine goes_ Try.func33 (by kernel_rfl) rfl #[.slice Aa R.1.length ca, .slice At1 T1.length ct1] (by rfl) rfl rfl ?_ ?_; (focus ((try simp only [List.map_toArray, List.map_cons, List.map_nil]); first | done | rfl | (simp [Act.eval, Act.put]; done))); refine (hutchlaw27_bools.calls k _ _ R.1 _ _ T1 true _ (by repeat (first | exact CA.out | (with_reducible refine Kd.C_drewN ?_ _) | (with_reducible refine Kd.C_drew ?_))) (Kd.R_reads' HO1.out).2.1 (by repeat (first | exact CT1.out | (with_reducible refine Kd.C_drewN ?_ _) | (with_reducible refine Kd.C_drew ?_))) (Kd.R_reads' HOT1.out).2.1 HT1.out).mono ?_; rintro e w7 ⟨rfl, ⟨nd, rfl⟩⟩; refine ⟨_, rfl, ?_⟩)
            | (refine goes_ Try.func25 (by kernel_rfl) rfl #[.slice Ag R.2.length cg, .slice At2 T2.length ct2] (by rfl) rfl rfl ?_ ?_; (focus ((try simp only [List.map_toArray, List.map_cons, List.map_nil]); first | done | rfl | (simp [Act.eval, Act.put]; done))); refine (hutchref06_Same.calls k _ _ R.2 _ _ T2 true _ (by repeat (first | exact CG.out | (with_reducible refine Kd.C_drewN ?_ _) | (with_reducible refine Kd.C_drew ?_))) (Kd.R_reads' HO2.out).2.1 (by repeat (first | exact CT2.out | (with_reducible refine Kd.C_drewN ?_ _) | (with_reducible refine Kd.C_drew ?_))) (Kd.R_reads' HOT2.out).2.1 HT2.out).mono ?_; rintro e w7 ⟨rfl, ⟨nd2, rfl⟩⟩; refine ⟨_, rfl, ?_⟩)
            | (refine goes_ Try.func34 (by kernel_rfl) rfl #[.slice At1 T1.length ct1] (by rfl) rfl rfl ?_ ?_; (focus ((try simp only [List.map_toArray, List.map_cons, List.map_nil]); first | done | rfl | (simp [Act.eval, Act.put]; done))); refine (hutchref27_Hits.calls k _ _ T1 _ _ (by repeat (first | exact CT1.out | (with_reducible refine Kd.C_drewN ?_ _) | (with_reducible refine Kd.C_drew ?_))) (Kd.R_reads' HOT1.out).2.1 HT3.out).mono ?_; rintro e w7 ⟨rfl, ⟨nd3, rfl⟩⟩; refine ⟨_, rfl, ?_⟩)
            | (refine goes_ Try.func33 (by kernel_rfl) rfl #[.slice A5 (hits.take most).length c5, .slice At1 m ct1] (by rfl) rfl rfl ?_ ?_; (focus ((try simp only [List.map_toArray, List.map_cons, List.map_nil]); first | done | rfl | (simp [Act.eval, Act.put, HHD.out]; done))); refine calls_of_args (args' := #[.slice A5 (hits.take most).length c5, .slice At1 (T1.take m).length ct1]) (by rw [HLT.out]) ?_; refine (hutchlaw27_bools.calls k _ _ (hits.take most) _ _ (T1.take m) true _ (by repeat (first | exact CB.out | (with_reducible refine Kd.C_drewN ?_ _) | (with_reducible refine Kd.C_drew ?_))) HLB.out (by repeat (first | exact CTM.out | (with_reducible refine Kd.C_drewN ?_ _) | (with_reducible refine Kd.C_drew ?_))) HTC.out HT4B.out).mono ?_; rintro e w7 ⟨rfl, ⟨nd4, rfl⟩⟩; refine ⟨_, rfl, ?_⟩)
            | (refine goes_ Try.func27 (by kernel_rfl) rfl #[] (by rfl) rfl rfl (by simp) ?_; refine (hutchlaw27_alive.calls k true _ HT5.out).mono ?_; rintro e w8 ⟨rfl, hb⟩; refine ⟨_, rfl, ?_⟩; have HB8 := Aside0.mk hb; have hk68 := (hb.block _ (blk_lt HK6B.out)).trans HK6B.out; have HK68 := Aside0.mk hk68; have hc68 : w8.cell? ⟨w.heap.size + 1, 0, none⟩ = some (.bool false) := (blk_cell hk68 0).trans rfl; have hf68 := blk_frozen hk68 0; clear hb hk68))
          have hDlt : D < W.heap.size := (Array.getElem?_eq_some_iff.1 hK).1
          have hD8lt : D < (w6.alloc (.cells #[.slice At1 T1.length ct1, .slice At2 T2.length ct2] 49)).heap.size := Nat.lt_of_lt_of_le hDlt HWB.out.size
          have hD6 : D ≠ w.heap.size + 1 := by omega
          have hKD8 : w8.heap[D]? = some (.deferred (some [])) := (HB8.out.block D hD8lt).trans ((HWB.out.block D hDlt).trans hK)
          have hKD : (w8.setCell ⟨w.heap.size + 1, 0, none⟩ (.bool true)).heap[D]? = some (.deferred (some [])) := (Below.heap_setCell w8 ⟨w.heap.size + 1, 0, none⟩ _ D hD6).trans hKD8
          have hbx := (show Boxed w8 (w.heap.size + 1) 4 (.bool false) from HK68.out).set (.bool true)
          have hcr : ((w8.setCell ⟨w.heap.size + 1, 0, none⟩ (.bool true)).putObj D (.deferred none)).cell? ⟨w.heap.size + 1, 0, none⟩ = some (.bool true) := by
            have : ((w8.setCell ⟨w.heap.size + 1, 0, none⟩ (.bool true)).putObj D (.deferred none)).heap[w.heap.size + 1]? = some (.cells #[.bool true] 4 (0, 0)) := (World.putObj_heap_other (fun e => hD6 e.symm)).trans hbx
            exact (blk_cell this 0).trans rfl
          simp only [straight]
          go_wp2
          refine ⟨by simp, .inl ⟨_, _, rfl, run_takeDeferred hKD, ?_⟩⟩
          refine ⟨.bool true, ?_, rfl, ?_⟩
          · simp only [results]
            go_simp
          · have s0 : w.heap.size ≤ W.heap.size := by have := hB.size; omega
            have q3 : Below w.heap.size w w8 := by
              refine Below.trans ?_ (HB8.out.mono (Nat.le_trans s0 HWB.out.size))
              have q0 := HQ2.out.trans (HWB.out.mono s0)
              repeat (first | exact q0 | apply pw_below_drewN | apply below_drew1)
            exact (q3.setCell (p := ⟨w.heap.size + 1, 0, none⟩) (Nat.le_succ _) _).trans (belowK_b (w := w) (Nat.le_refl _) _ D _ _ (by omega) hKD rfl rfl)
        · rw [if_neg htt] at hh
          exact absurd hh (by simp)
    refine (wpIn_wide (n := 5)).1 ?_
    refine wpIn_rangeFunc_ownG hro (by decide) (gf := 72) (lb := #[.pointer (some ⟨Bs, 0, none⟩)]) rfl trivial (enters_of Try.func72 (by kernel_rfl) rfl)
      hseq (fun h k => KeepsBox.trans h k) (KeepsBox.putObj bO.lt) (Below.refl _ _) (fun _ => rfl)
      I
      Ix
      hIO
      hIXO
      (by rw [HID.out]; exact ⟨⟨⟨_, bO, own_nil _ _ _ _, trivial⟩, below_alloc (Below.refl _ _) _⟩, fun j hj => absurd hj (by simp), Nat.zero_le _⟩)
      (fun x => { tmps := #[.slice A0 l0.length c0, .int .i64 a1, .int .u8 (most : Int), undef, undef, .pointer (some ⟨w.heap.size, 0, none⟩), .pointer (some ⟨w.heap.size + 1, 0, none⟩), .slice Aa R.1.length ca, .slice Ag R.2.length cg, .int .i64 (R.1.count true : Nat), .func (.func 72) #[] #[.pointer (some ⟨Bs, 0, none⟩)], .pointer (some ⟨w4.heap.size, 0, none⟩), .int .i64 x.1, .bool x.2, undef, .slice A0 l0.length c0, .int .i64 (l0.length : Int), .bool false, undef, .slice A0 l0.length c0, .int .i64 a1, .slice Aa R.1.length ca, .slice A0 l0.length c0, .int .i64 a1, .slice Ag R.2.length cg, .slice A0 l0.length c0, .int .i64 a1, .int .i64 (R.1.count true : Nat), .slice A0 l0.length c0, .int .i64 a1, .func (.func 72) #[] #[.pointer (some ⟨Bs, 0, none⟩)], .func (.func 72) #[] #[.pointer (some ⟨Bs, 0, none⟩)], .bool false, .func (.func 72) #[] #[.pointer (some ⟨Bs, 0, none⟩)], .int .i64 x.1, .bool x.2, undef, undef, undef, undef, undef, undef, undef, undef, undef, undef, undef, undef, undef, undef, undef, undef, undef, undef, undef, undef, undef, undef, undef, undef, undef, undef, undef, undef, undef, undef, undef, undef, undef, undef, undef, undef, undef, undef, undef, undef, undef, undef, undef, undef, undef, undef, undef, undef, undef, undef, undef, undef, undef, undef, undef, undef, undef, undef, undef, undef, undef, undef, undef, undef, undef], defers := [] }) ?assign ?body ?done ?stop
    case assign =>
      intro l x W K hK
      gi_wp2
      exact hK
    case body =>
      rintro l pre x W hIp hlt
      rw [HID.out] at hIp
      obtain ⟨⟨⟨v, hv, hrow, _⟩, hB⟩, hidx, hpm⟩ := hIp
      have HI := Aside0.mk (show I pre W by rw [HID.out]; exact ⟨⟨⟨v, hv, hrow, trivial⟩, hB⟩, hidx, hpm⟩)
      obtain ⟨A', c', rfl⟩ := own_slice hrow
      have hc := hv.cell
      have hk5' := (hB.block _ h5lt).trans hk5
      have hk6' := (hB.block _ h6lt).trans hk6
      have hc5 : W.cell? ⟨w.heap.size, 0, none⟩ = some (.int .u8 (most : Int)) := (blk_cell hk5' 0).trans rfl
      have hc6 : W.cell? ⟨w.heap.size + 1, 0, none⟩ = some (.bool false) := (blk_cell hk6' 0).trans rfl
      have hf6 := blk_frozen hk6' 0
      have HV := Aside0.mk hv
      have HRW := Aside0.mk hrow
      have HBW := Aside0.mk hB
      have HIX := Aside0.mk hidx
      have HB6 := Aside0.mk hk6'
      clear hv hrow hB hidx hk5' hk6'
      by_cases hge : most ≤ pre.length
      · have d1 : decide ((most : Int) ≤ (pre.length : Int)) = true := decide_eq_true (by omega)
        have d2 : decide (most ≤ pre.length) = true := decide_eq_true hge
        gi_wp2
        exact ⟨KeepsFrom.refl _ _, by rw [HIXD.out]; exact .inl ⟨rfl, pre, x, rfl, HI.out, hge⟩⟩
      · have d1 : decide ((most : Int) ≤ (pre.length : Int)) = false := decide_eq_false (by omega)
        have d2 : decide (most ≤ pre.length) = false := decide_eq_false hge
        by_cases hne : x.1 = (pre.length : Int)
        · have n1 : (x.1 != (pre.length : Int)) = false := bne_eq_false_iff_eq.2 hne
          have n2 : (x.1 == (pre.length : Int)) = true := beq_iff_eq.2 hne
          have hml : pre.length + 1 ≤ maxLen := by simp only [maxLen]; omega
          have hmb : (pre.length + 1) * 1 ≤ 140737488355328 := by omega
          have hbs : w4.heap.size ≤ W.heap.size + 1 := by have := HBW.out.size; omega
          gi_wp2_with (gi_at_builtin; refine wpListIn_append_own_at _ rfl (.tmp 45) (.tmp 47) 41 rfl w4.heap.size 4 i0 (.bool false) 1 1 Try.underlying41 HI0.out HZ0.out HZ1.out HZ2.out rfl (by decide) _ _ _ rfl (HRW.out.alloc _) ⟨W.heap.size, 0, none⟩ 1 1 [.bool x.2] rfl rfl (cell_one_new _ _ _) (by simp [Value.oneCell']) hml hmb (by simpa using hbs) ?_; intro v' w5 hown' hgrow _ hat; obtain ⟨g', cap', rfl⟩ := ownsRow_succ hown'; obtain ⟨hv1, hv2, hr2, hk2, hb2⟩ := HV.out.appended (by decide) HRW.out HBW.out.size (Nat.le_refl _) hown' hgrow; have hkb := KeepsBox.appended HV.out (by decide) HRW.out hown' hgrow (hat.imp id (fun h => ⟨_, h, by simp⟩)); have hc1 := hv1.cell; have hf1 := hv1.frozen; clear hat)
          refine ⟨hk2.from _, hkb, ?_⟩
          rw [HID.out]
          refine ⟨⟨⟨_, hv2, by simpa using hr2, trivial⟩, HBW.out.trans hb2⟩, fun j hj => ?_, by simp; omega⟩
          by_cases hjl : j < pre.length
          · rw [List.getElem_append_left hjl]; exact HIX.out j hjl
          · simp at hj
            have : j = pre.length := by omega
            subst this
            simp [hne]
        · have n1 : (x.1 != (pre.length : Int)) = true := bne_iff_ne.2 hne
          have n2 : (x.1 == (pre.length : Int)) = false := beq_eq_false_iff_ne.2 hne
          gi_wp2
          exact ⟨(keepsOthers_set (B := w.heap.size + 1) (t := 4) (v := .bool false) HB6.out _).from _, by rw [HIXD.out]; exact .inr ⟨rfl, pre, x, rfl, hne⟩⟩
    case done =>
      rintro D ys W hD rfl hIp hK
      rw [HID.out] at hIp
      obtain ⟨⟨⟨v, hv, hrow, _⟩, hB⟩, hidx, hpm⟩ := hIp
      rw [placesOf_length] at hrow hpm
      have htk : hits.take most = hits := List.take_of_length_le hpm
      refine tail D W v (by simp at hD; omega) hK hv ?_ hB
      rw [htk]
      have hmap : (placesOf hits).map (fun x => Value.bool x.2) = hits.map Value.bool := by
        conv => rhs; rw [← places_snd hits]
        rw [List.map_map]; rfl
      rw [hmap] at hrow
      exact hrow
    case stop =>
      rintro D c pre W hD ⟨kk, hpre⟩ hIx hK
      rw [HIXD.out] at hIx
      rcases hIx with ⟨rfl, pre', x, hpx, hIp, hge⟩ | ⟨rfl, pre', x, hpx, hne⟩
      · rw [HID.out] at hIp
        obtain ⟨⟨⟨v, hv, hrow, _⟩, hB⟩, hidx, hpm⟩ := hIp
        have hlm : pre'.length = most := Nat.le_antisymm hpm hge
        have hpl : pre.length ≤ hits.length := by rw [hpre, List.length_take, placesOf_length]; omega
        have hpt : pre' = (placesOf hits).take most := by
          have h1 : pre' = pre.take most := by rw [hpx, ← hlm]; simp
          have h2 : pre.length ≤ kk := by rw [hpre, List.length_take]; omega
          have h3 : pre'.length < pre.length := by rw [hpx]; simp
          rw [h1, hpre, List.take_take, Nat.min_eq_left (by omega)]
        have hmap : pre'.map (fun x => Value.bool x.2) = (hits.take most).map Value.bool := by
          conv => rhs; rw [← places_snd hits]
          rw [hpt, ← List.map_take, List.map_map]; rfl
        have hlt : (hits.take most).length = pre'.length := by
          have h3 : pre'.length < pre.length := by rw [hpx]; simp
          rw [List.length_take]; omega
        rw [hmap, ← hlt] at hrow
        have t := tail D W v (by simp at hD; omega) hK hv hrow hB
        rw [← HQ.out] at t ⊢
        simp only [Exit.inBlock] at t
        gi_step
        exact t
      · exfalso
        have hlt : pre'.length < pre.length := by rw [hpx]; simp
        have h1 : pre[pre'.length]'hlt = x := by simp [hpx]
        have h2 : pre[pre'.length]'hlt = (placesOf hits)[pre'.length]'(by rw [hpre, List.length_take] at hlt; omega) := by simp [hpre]
        rw [h1] at h2
        apply hne
        rw [h2]
        simp [placesOf]

/-- THE ONE PURE STATEMENT of hutchlaw27_BestRuns. -/
def hutchlaw27_BestRuns.Pure : Prop := ∀ (l0 : List Int) (a1 : Int) (a2 : Int), l0.length * 8 ≤ 140737488351232 → (∀ y_ ∈ l0, (Lit.int .u64 y_).wf = true) → (Lit.int .i64 a1).wf = true → (Lit.int .u8 a2).wf = true → ∃ k, hutchlaw27_BestRuns.f k l0 a1 a2 = some true

end Go.Proofs.Ytdjbpdahdakfjaa.PBest
