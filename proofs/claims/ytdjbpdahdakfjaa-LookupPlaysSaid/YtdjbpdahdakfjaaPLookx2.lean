-- Written by a program of this session (a turned copy of the kit's printer, texts of this session's own for functions that it does not take).
import Derived.Test.YtdjbpdahdakfjaaPLookx0
import Derived.Test.YtdjbpdahdakfjaaPLookx1
namespace Go.Proofs.Ytdjbpdahdakfjaa.PLook
open Go.RowKit Go.Proofs.YtdjbpdahdakfjaaH Go.Proofs.YtdjbpdahdakfjaaW.PrintWords Go.Proofs.YtdjbpdahdakfjaaW.PrintLast Go.Proofs.YtdjbpdahdakfjaaW.PrintMore
attribute [local go_sem] max2_int min2_int max_two min_two max_three min_three max_four min_four   -- for this text's walks alone
set_option linter.unusedVariables false
set_option linter.unusedSimpArgs false


/-! ### lookup_Table_move: function 84 -/
-- by hand
set_option maxRecDepth 100000 in
set_option maxHeartbeats 8000000 in
theorem lookup_Table_move.both {g most sk : Nat} {cs : Array Value} {t : Tab.Tb} {w : World} (hT : Tab.TbAt 111 107 w g cs t) (hI : Tab.TInv tabHome sk t) (hm : most ≤ 1099511627776) (hv0 : 0 ≤ t.moves) (hv1 : t.moves + most < 18446744073709551616) (hk : t.now.sl.length ≤ 1099511627776) :
    Calls Try.prog 84 #[.pointer (some ⟨g, 0, none⟩), .int .i64 (most : Int)] w (fun e w' => e = .returned (.tuple #[]) ∧ ∃ cs' t', Tab.TbAt 111 107 w' g cs' t' ∧ Tab.Moved tabHome sk most t t' ∧ Mut (t.foot g) w (t'.foot g) w') ∧ ∀ u, CallsD Try.prog 84 #[.pointer (some ⟨g, 0, none⟩), .int .i64 (most : Int)] u w fun e u' w' => u' = u ∧ e = .returned (.tuple #[]) ∧ ∃ cs' t', Tab.TbAt 111 107 w' g cs' t' ∧ Tab.Moved tabHome sk most t t' ∧ Mut (t.foot g) w (t'.foot g) w' := by
  have HT := Aside0.mk hT
  have HI := Aside0.mk hI
  have HV0 := Aside0.mk hv0
  have HV1 := Aside0.mk hv1
  have HK := Aside0.mk hk
  have hm' : (most : Int) ≤ 1099511627776 := by omega
  clear hT hI hv0 hv1 hk
  refine both_of_wp Try.func84 rfl ?_
  simp only [Try.ntmps84, List.size_toArray, List.length_cons, List.length_nil, Nat.reduceAdd, Nat.reduceSub, Array.replicate_succ, Array.replicate_zero, List.push_toArray, List.append_toArray, List.nil_append, List.cons_append]
  go_wp2
  go_loopg [4] (most * (t.old.sl.length + 1) + t.old.sl.length + 1) (fun kq v4 w' => ∃ (d : Nat) (cs1 : Array Value) (t1 : Tab.Tb), v4 = .int .i64 (d : Int) ∧ d ≤ most ∧ Aside0 (Tab.TbAt 111 107 w' g cs1 t1) ∧ Aside0 (Tab.MvInv tabHome t t1 d) ∧ Aside0 (Mut (t.foot g) w (t.foot g) w') ∧ Aside0 ((most - d) * (t.old.sl.length + 1) + (t.old.sl.length - t1.frm) < kq))
  case atStart => exact ⟨0, cs, t, rfl, Nat.zero_le _, HT, ⟨Tab.MvInv.start HI.out⟩, ⟨Mut.refl _ _⟩, ⟨by rw [Nat.sub_zero]; omega⟩⟩
  case round =>
    obtain ⟨d, cs1, t1, rfl, hd, HT1, HM, HMU, HQ⟩ := hrel
    obtain ⟨k1, rfl⟩ : ∃ k1, gk = k1 + 1 := ⟨gk - 1, by have := HQ.out; omega⟩
    have hd0 : (0 : Int) ≤ (d : Int) := by omega
    have hd1 : (d : Int) ≤ 1099511627776 := by omega
    have ho := HT1.out.old
    have hom := HM.out.oldMany
    have hc5 : wr.cell? ⟨g, 5, none⟩ = some (.int .i64 (Tab.cnt t1.old.sl : Int)) := by
      have := (blk_cell ho.blk 5).trans ho.c2
      rw [hom] at this
      exact this
    obtain ⟨c, hc⟩ : ∃ c, c = Tab.cnt t1.old.sl := ⟨_, rfl⟩
    rw [← hc] at hc5
    have HC := Aside0.mk hc
    clear ho hom hc
    by_cases hgo : d < most ∧ 0 < c
    · obtain ⟨hdm, hcp⟩ := hgo
      have b1 : decide ((d : Int) < (most : Int)) = true := decide_eq_true (by omega)
      have b2 : decide (d < most) = true := decide_eq_true hdm
      have b3 : decide ((0 : Int) < (c : Int)) = true := decide_eq_true (by omega)
      have b4 : decide (0 < c) = true := decide_eq_true hcp
      have ho := HM.out.isOld (by rw [← HC.out]; exact hcp)
      have hfl := ho.frm_lt (by rw [← HC.out]; exact hcp)
      obtain ⟨A0, hA0⟩ := Option.ne_none_iff_exists'.1 ho.fit.adr
      obtain ⟨n0, hn0⟩ : ∃ n0, n0 = t1.old.sl.length := ⟨_, rfl⟩
      have hv : t1.old.val = .slice (some ⟨A0, 0, none⟩) n0 n0 := by unfold Tab.Rw.val; rw [hA0, hn0]; rfl
      have hc4 : wr.cell? ⟨g, 4, none⟩ = some (.slice (some ⟨A0, 0, none⟩) n0 n0) := ((blk_cell HT1.out.old.blk 4).trans HT1.out.old.c1).trans (by rw [hv])
      obtain ⟨fr, hfr⟩ : ∃ fr, fr = t1.frm := ⟨_, rfl⟩
      have hc6 : wr.cell? ⟨g, 6, none⟩ = some (.int .i64 (fr : Int)) := by rw [hfr]; exact (blk_cell HT1.out.old.blk 6).trans HT1.out.frm
      obtain ⟨hs0, hs1, hs2⟩ := Tab.arr_cell (HT1.out.old.arr A0 hA0).1 hfl
      rw [← hfr] at hs0 hs1 hs2
      obtain ⟨x, hx⟩ : ∃ x, x = Tab.at_ t1.old.sl fr := ⟨_, rfl⟩
      rw [← hx] at hs0 hs1 hs2
      have hf6 : wr.frozen? ⟨g, 6, none⟩ = false := blk_frozen HT1.out.old.blk 6
      rw [← hfr, ← hn0] at hfl
      have hn0m : n0 ≤ 1099511627776 := by
        have h1 := HM.out.nl
        have h2 := ho.len
        have h3 := HK.out
        omega
      have i0 : (0 : Int) ≤ (fr : Int) := by omega
      have i1 : (fr : Int) < (n0 : Int) := by omega
      have HO := Aside0.mk ho
      have HN0 := Aside0.mk hn0
      have HFR := Aside0.mk hfr
      have HXX := Aside0.mk hx
      have HA0 := Aside0.mk hA0
      have lg := World.block_lt_of_cell? wr _ hc4
      have lA := World.block_lt_of_cell? wr _ hs0
      simp only at lg lA
      clear ho hn0 hfr hx hA0 hv
      have hS : wr.cell? ⟨g, 4, none⟩ = some (.slice (some ⟨A0, 0, none⟩) n0 n0) ∧ wr.cell? ⟨g, 6, none⟩ = some (.int .i64 (fr : Int)) ∧ wr.cell? ⟨A0, fr * 3, none⟩ = some (.int .u64 x.k) ∧ wr.cell? ⟨A0, fr * 3 + 1, none⟩ = some (.int .i32 x.n) ∧ wr.cell? ⟨A0, fr * 3 + 2, none⟩ = some (.bool x.t) := ⟨hc4, hc6, hs0, hs1, hs2⟩
      go_wp2
      go_region_held3 (fun w' => w'.cell? ⟨g, 4, none⟩ = some (.slice (some ⟨A0, 0, none⟩) n0 n0) ∧ w'.cell? ⟨g, 6, none⟩ = some (.int .i64 (fr : Int)) ∧ w'.cell? ⟨A0, fr * 3, none⟩ = some (.int .u64 x.k) ∧ w'.cell? ⟨A0, fr * 3 + 1, none⟩ = some (.int .i32 x.n) ∧ w'.cell? ⟨A0, fr * 3 + 2, none⟩ = some (.bool x.t))
        (first | exact hS | exact ⟨cell_alloc _ hS.1, cell_alloc _ hS.2.1, cell_alloc _ hS.2.2.1, cell_alloc _ hS.2.2.2.1, cell_alloc _ hS.2.2.2.2⟩) (fail)
      generalize hW : (wr.alloc (.cells #[.int .u64 x.k, .int .i32 x.n, .bool x.t] 111)).drew = W1
      have hbl : Below wr.heap.size wr W1 := by rw [← hW]; exact below_drew1 ((Below.refl _ _).alloc (Nat.le_refl _) _)
      have hbx : W1.heap[wr.heap.size]? = some (.cells #[.int .u64 x.k, .int .i32 x.n, .bool x.t] 111 (0, 0)) := by rw [← hW]; exact blk_new wr _
      have hT2 : Tab.TbAt 111 107 W1 g cs1 t1 := HT1.out.far (fun k hk => hbl.block k (HT1.out.lt k hk))
      have hM2 : Mut (t.foot g) w (t.foot g) W1 := HMU.out.trans (Mut.of_below _ hbl)
      have hnf : ∀ k, t1.foot g k → k < wr.heap.size := HT1.out.lt
      have hd6 : W1.cell? ⟨g, 6, none⟩ = some (.int .i64 (fr : Int)) := pw_cell_below hbl hc6
      have hd2 : W1.cell? ⟨wr.heap.size, 2, none⟩ = some (.bool x.t) := (blk_cell hbx 2).trans rfl
      have hg6 : W1.frozen? ⟨g, 6, none⟩ = false := blk_frozen hT2.now.blk 6
      have HT2 := Aside0.mk hT2
      have HM2 := Aside0.mk hM2
      have HBX := Aside0.mk hbx
      have HNF := Aside0.mk hnf
      clear hW hbl hbx hT2 hM2 hnf hc4 hc5 hc6 hs0 hs1 hs2 hS hf6
      obtain ⟨B5, hB5⟩ : ∃ B5, B5 = wr.heap.size := ⟨_, rfl⟩
      rw [← hB5] at lg lA HBX HNF hd2 ⊢
      clear hB5
      obtain ⟨xk, xn, xt⟩ := x
      simp only at hd2 HBX HXX
      cases xt with
      | false =>
        have hw6 : wrap64 ((fr : Int) + 1) = (fr : Int) + 1 := by unfold wrap64; omega
        go_wp2
        obtain ⟨q1, q2⟩ := HT2.out.frm_ (fr + 1)
        go_roundg k1
        case measure => omega
        case rel =>
          have hfm := HM.out.free HO.out (by rw [← HC.out]; exact hcp) (by rw [← HFR.out, ← HXX.out])
          rw [← HFR.out] at hfm
          refine ⟨d, cs1.setIfInBounds 6 (.int .i64 ((fr + 1 : Nat) : Int)), { t1 with frm := fr + 1 }, rfl, hd, ⟨q1⟩, ⟨hfm⟩, ?_, ⟨?_⟩⟩
          · have ha := HM.out.adr
            have hff : t1.foot g = t.foot g := by unfold Tab.Tb.foot; rw [ha.1, ha.2]
            rw [hff] at q2
            exact ⟨HM2.out.trans q2⟩
          · have h1 := HQ.out
            have h2 := HM.out.ol
            rw [← HFR.out] at h1
            simp only
            rw [← h2, ← HN0.out] at h1 ⊢
            omega
      | true =>
        have HFF := Aside0.mk (show t1.foot g = t.foot g by unfold Tab.Tb.foot; rw [HM.out.adr.1, HM.out.adr.2])
        obtain ⟨S, i, c1, hi, p1, hmv⟩ := HM.out.move HI.out HO.out (by rw [← HC.out]; exact hcp) (by rw [← HFR.out, ← HXX.out])
        rw [← HFR.out, ← HXX.out] at p1 hmv
        simp only at p1 hmv
        rw [← HFR.out] at c1
        have HC1 := Aside0.mk c1
        have HP1 := Aside0.mk p1
        have HMV := Aside0.mk hmv
        have HI_ := Aside0.mk hi
        have hload := HI.out.load
        have hom := HM.out.oldMany
        have hnm := HM.out.many
        have hnl := HM.out.nl
        have hkk := HK.out
        have hlen := HM.out.len
        have hl1 : t1.len = Tab.cnt t1.now.sl + Tab.cnt t1.old.sl := rfl
        have HB1 := Aside0.mk (show 1 ≤ t1.old.many ∧ t1.old.many ≤ 1099511627776 by have := HC.out; omega)
        have HB2 := Aside0.mk (show 0 ≤ t1.now.many ∧ t1.now.many ≤ 1099511627776 by omega)
        have hmo := HM.out.moves
        have hm1 : t.moves + most < 18446744073709551616 := HV1.out
        have hm0 := HV0.out
        have hmv0 : 0 ≤ t1.moves := by omega
        have hmv1 : t1.moves + 1 < 18446744073709551616 := by omega
        clear c1 p1 hmv hi hload hom hnm hnl hkk hlen hl1 hmo hm1 hm0
        go_wp2
        refine region_tail 7 (by kernel_rfl) (by kernel_rfl) (fun W2 HW2 => ?_)
        simp only [List.take_succ_cons, List.take_zero, List.drop_succ_cons, List.drop_zero]
        have he6 : W2.cell? ⟨g, 6, none⟩ = some (.int .i64 (fr : Int)) := by rw [HW2.out]; exact hd6
        have hT3 : Tab.TbAt 111 107 W2 g cs1 t1 := by rw [HW2.out]; exact HT2.out.drew
        have HT3 := Aside0.mk hT3
        have HM3 := Aside0.mk (show Mut (t.foot g) w (t.foot g) W2 by rw [HW2.out]; exact HM2.out.drew)
        have HBX3 := Aside0.mk (show W2.heap[B5]? = some (.cells #[.int .u64 xk, .int .i32 xn, .bool true] 111 (0, 0)) by rw [HW2.out]; exact HBX.out)
        clear hT3
        repeat still_step
        refine wpStill_nil ?_
        go_wp2_with (go_at_call 88; refine (lookup_rows_clear.calls (i := fr) HT3.out.old HO.out.fit (by rw [← HN0.out]; exact hfl) HC1.out HB1.out.1 HB1.out.2).mono ?_; rintro e w3 ⟨rfl, cs2, hr2, hcs2, hmu2⟩; obtain ⟨hT4, hM4⟩ := HT3.out.old_ hr2 rfl hcs2 hmu2; have hbx4 := hM4.far HBX3.out (fun hf => by have := HNF.out _ hf; omega); have HT4 := Aside0.mk hT4; have HM4 := Aside0.mk (HM3.out.trans (HFF.out ▸ hM4)); have HBX4 := Aside0.mk hbx4; clear hr2 hcs2 hmu2 hT4 hM4 hbx4)
        refine region_tail 7 (by kernel_rfl) (by kernel_rfl) (fun W4 HW4 => ?_)
        simp only [List.take_succ_cons, List.take_zero, List.drop_succ_cons, List.drop_zero]
        have hb0 : W4.cell? ⟨B5, 0, none⟩ = some (.int .u64 xk) := by rw [HW4.out]; exact (blk_cell HBX4.out 0).trans rfl
        have hb1 : W4.cell? ⟨B5, 1, none⟩ = some (.int .i32 xn) := by rw [HW4.out]; exact (blk_cell HBX4.out 1).trans rfl
        have HT5 := Aside0.mk (show Tab.TbAt 111 107 W4 g cs2 { t1 with old := { t1.old with sl := S, many := t1.old.many - 1 } } by rw [HW4.out]; exact HT4.out.drew)
        have HM5 := Aside0.mk (show Mut (t.foot g) w (t.foot g) W4 by rw [HW4.out]; exact HM4.out.drew)
        repeat still_step
        refine wpStill_nil ?_
        go_wp2_with (go_at_call 87; refine (lookup_rows_put.calls HT5.out.now HM.out.fit HP1.out HI_.out HB2.out.1 HB2.out.2).mono ?_; rintro e w5 ⟨rfl, cs3, hr3, hcs3, hmu3⟩; obtain ⟨hT6, hM6⟩ := HT5.out.now_ hr3 rfl hcs3 hmu3; have HT6 := Aside0.mk hT6; have HM6 := Aside0.mk (HM5.out.trans (HFF.out ▸ hM6)); have hc7 : w5.cell? ⟨g, 7, none⟩ = some (.int .u64 t1.moves) := (blk_cell hT6.now.blk 7).trans hT6.mov; have hf7 : w5.frozen? ⟨g, 7, none⟩ = false := blk_frozen hT6.now.blk 7; clear hr3 hcs3 hmu3 hT6 hM6)
        obtain ⟨q1, q2⟩ := HT6.out.mov_ (t1.moves + 1)
        simp only [Bool.false_eq_true, if_false] at q1
        go_roundg k1
        case measure => omega
        case rel =>
          refine ⟨d + 1, _, _, by go_num, hdm, ⟨q1⟩, ⟨by have := HMV.out; rw [HFR.out] at this; exact this⟩, ⟨HM6.out.trans (HFF.out ▸ q2)⟩, ⟨?_⟩⟩
          have h1 := HQ.out
          simp only
          have h2 : (most - d) * (t.old.sl.length + 1) = (most - (d + 1)) * (t.old.sl.length + 1) + (t.old.sl.length + 1) := by
            rw [show most - d = (most - (d + 1)) + 1 by omega, Nat.add_mul, Nat.one_mul]
          omega
    · have hst : decide (d < most) = false ∨ decide (d < most) = true ∧ c = 0 := by
        by_cases h : d < most
        · exact .inr ⟨decide_eq_true h, by omega⟩
        · exact .inl (decide_eq_false h)
      have HG := Aside0.mk hgo
      clear hgo
      by_cases hc0 : c = 0
      · have hcz : (c : Int) = 0 := by omega
        have b5 : ((c : Int) == 0) = true := by rw [hcz]; rfl
        have b3 : decide ((0 : Int) < (c : Int)) = false := decide_eq_false (by omega)
        have b4 : decide (0 < c) = false := decide_eq_false (by omega)
        obtain ⟨cs', q1, q2⟩ := HT1.out.drop_
        have hmd := HM.out.none HI.out hd (by rw [← HC.out]; exact hc0)
        have HFF := (show t1.foot g = t.foot g by unfold Tab.Tb.foot; rw [HM.out.adr.1, HM.out.adr.2])
        rw [HFF] at q2
        have HQ1 := Aside0.mk q1
        have HQ2 := Aside0.mk (HMU.out.trans q2)
        have HMD := Aside0.mk hmd
        have hl3 : ∀ i, i < 8 → ∃ v, wr.cell? ⟨g, i, none⟩ = some v := fun i hi => by
          have hl : 7 < cs1.size := (Array.getElem?_eq_some_iff.1 HT1.out.mov).1
          exact ⟨cs1[i]'(by omega), (blk_cell HT1.out.now.blk i).trans (Array.getElem?_eq_getElem (by omega))⟩
        obtain ⟨v3, h3⟩ := hl3 3 (by decide)
        obtain ⟨v4, h4⟩ := hl3 4 (by decide)
        obtain ⟨v6, h6⟩ := hl3 6 (by decide)
        have hff : ∀ j, wr.frozen? ⟨g, j, none⟩ = false := fun j => blk_frozen HT1.out.now.blk j
        clear q1 q2 hmd HFF hl3 hst hc0
        cases hb : decide (d < most)
        all_goals
          have b1 : decide ((d : Int) < (most : Int)) = decide (d < most) := by congr 1; exact propext (by omega)
          rw [hb] at b1
          go_wp2
          go_end0
          exact ⟨rfl, _, _, HQ1.out, HMD.out, HQ2.out⟩
      · have b5 : ((c : Int) == 0) = false := beq_eq_false_iff_ne.2 (by omega)
        have hdm : ¬ d < most := fun h => HG.out ⟨h, by omega⟩
        have b1 : decide ((d : Int) < (most : Int)) = false := decide_eq_false (by omega)
        have b2 : decide (d < most) = false := decide_eq_false hdm
        have HFF := Aside0.mk (show t1.foot g = t.foot g by unfold Tab.Tb.foot; rw [HM.out.adr.1, HM.out.adr.2])
        have HMD := Aside0.mk (HM.out.some_ (most := most) HI.out (by omega) (by rw [← HC.out]; omega))
        clear hst hc0 hdm
        go_wp2
        go_end0
        exact ⟨rfl, _, _, HT1.out, HMD.out, by rw [HFF.out]; exact HMU.out⟩
theorem lookup_Table_move.calls {g most sk : Nat} {cs : Array Value} {t : Tab.Tb} {w : World} (hT : Tab.TbAt 111 107 w g cs t) (hI : Tab.TInv tabHome sk t) (hm : most ≤ 1099511627776) (hv0 : 0 ≤ t.moves) (hv1 : t.moves + most < 18446744073709551616) (hk : t.now.sl.length ≤ 1099511627776) :
    Calls Try.prog 84 #[.pointer (some ⟨g, 0, none⟩), .int .i64 (most : Int)] w fun e w' => e = .returned (.tuple #[]) ∧ ∃ cs' t', Tab.TbAt 111 107 w' g cs' t' ∧ Tab.Moved tabHome sk most t t' ∧ Mut (t.foot g) w (t'.foot g) w' := (lookup_Table_move.both hT hI hm hv0 hv1 hk).1
theorem lookup_Table_move.callsD {g most sk : Nat} {cs : Array Value} {t : Tab.Tb} {w : World} (hT : Tab.TbAt 111 107 w g cs t) (hI : Tab.TInv tabHome sk t) (hm : most ≤ 1099511627776) (hv0 : 0 ≤ t.moves) (hv1 : t.moves + most < 18446744073709551616) (hk : t.now.sl.length ≤ 1099511627776) : ∀ u, CallsD Try.prog 84 #[.pointer (some ⟨g, 0, none⟩), .int .i64 (most : Int)] u w fun e u' w' => u' = u ∧ e = .returned (.tuple #[]) ∧ ∃ cs' t', Tab.TbAt 111 107 w' g cs' t' ∧ Tab.Moved tabHome sk most t t' ∧ Mut (t.foot g) w (t'.foot g) w' := (lookup_Table_move.both hT hI hm hv0 hv1 hk).2


/-! ### lookup_Table_grow: function 86 -/
-- by hand
set_option maxRecDepth 100000 in
set_option maxHeartbeats 4000000 in
theorem lookup_Table_grow.calls {g : Nat} {cs : Array Value} {t : Tab.Tb} {w : World} (hT : Tab.TbAt 111 107 w g cs t) (hI : Tab.TInv tabHome 0 t) (hc : Tab.cnt t.old.sl = 0) (hb : t.now.bits < 30) (hv0 : 0 ≤ t.moves) (hv1 : t.moves < 18446744073709551616) :
    Calls Try.prog 86 #[.pointer (some ⟨g, 0, none⟩)] w fun e w' => e = .returned (.tuple #[]) ∧ ∃ cs' t', Tab.TbAt 111 107 w' g cs' t' ∧ Tab.TInv tabHome 0 t' ∧ (∀ k v, t'.has k v ↔ t.has k v) ∧ t'.len = t.len ∧ t'.moves = t.moves ∧ t'.now.sl.length = 2 * t.now.sl.length ∧ t'.now.bits = t.now.bits + 1 ∧ t'.old.sl.length = t.now.sl.length ∧ Tab.cnt t'.now.sl = 0 ∧ Mut (t.foot g) w (t'.foot g) w' := by
  have hom := (Tab.MvInv.start hI).oldMany
  have hc5 : w.cell? ⟨g, 5, none⟩ = some (.int .i64 0) := ((blk_cell hT.old.blk 5).trans hT.old.c2).trans (by rw [hom, hc]; rfl)
  have hnl : t.now.sl.length ≤ 1099511627776 := by
    rw [hI.fit.len]
    exact Nat.le_trans (Nat.pow_le_pow_right (by decide) hI.fit.hi) (by decide)
  have hmv := lookup_Table_move.calls (most := 0) hT hI (by decide) hv0 (by omega) hnl
  rw [show ((0 : Nat) : Int) = 0 from rfl] at hmv
  have HMV := Aside0.mk hmv
  have HC := Aside0.mk hc
  have HI := Aside0.mk hI
  clear hmv hom hT hI hc
  go_enter Try.func86, Try.ntmps86
  go_wp2_with (first
    | (go_at_call 84; refine HMV.out.mono ?_; rintro e w1 ⟨rfl, cs1, t1, h1, h2, h3⟩; have HT1 := Aside0.mk h1; have HM1 := Aside0.mk h2; have HU1 := Aside0.mk h3; have hq0 : w1.cell? ⟨g, 0, none⟩ = some (.int .i64 (t1.now.bits : Int)) := (blk_cell h1.now.blk 0).trans h1.now.c0; obtain ⟨A1, hA1⟩ := Option.ne_none_iff_exists'.1 h2.inv.fit.adr; have hval : t1.now.val = .slice (some ⟨A1, 0, none⟩) t1.now.sl.length t1.now.sl.length := (by unfold Tab.Rw.val; rw [hA1]; rfl); have hq1 : w1.cell? ⟨g, 1, none⟩ = some (.slice (some ⟨A1, 0, none⟩) t1.now.sl.length t1.now.sl.length) := ((blk_cell h1.now.blk 1).trans h1.now.c1).trans (by rw [hval]); have HVAL := Aside0.mk hval; clear hval hA1; have hq2 : w1.cell? ⟨g, 2, none⟩ = some (.int .i64 t1.now.many) := (blk_cell h1.now.blk 2).trans h1.now.c2; have hq3 : w1.cell? ⟨g, 3, none⟩ = some (.int .i64 (t1.old.bits : Int)) := (blk_cell h1.old.blk 3).trans h1.old.c0; have hq4 : w1.cell? ⟨g, 4, none⟩ = some t1.old.val := (blk_cell h1.old.blk 4).trans h1.old.c1; have hq5 : w1.cell? ⟨g, 5, none⟩ = some (.int .i64 t1.old.many) := (blk_cell h1.old.blk 5).trans h1.old.c2; have hq6 : w1.cell? ⟨g, 6, none⟩ = some (.int .i64 (t1.frm : Int)) := (blk_cell h1.old.blk 6).trans h1.frm; have hqf : ∀ j, w1.frozen? ⟨g, j, none⟩ = false := fun j => blk_frozen h1.now.blk j; have hbb : t1.now.bits < 30 := (by rw [Tab.Fit.bits_eq h2.inv.fit HI.out.fit h2.nl]; exact hb); have hw : wrap64 ((t1.now.bits : Int) + 1) = (t1.now.bits : Int) + 1 := (by unfold wrap64; omega); have HBB := Aside0.mk hbb; clear h1 h2 h3 hbb)
    | (go_at_call 83; refine (lookup_fresh.calls_succ HBB.out).mono ?_; rintro e w3 ⟨A, rfl, h1, h2, h3⟩; have HA := Aside0.mk h1; have HLE := Aside0.mk h2; have HB := Aside0.mk h3; have hgl : g < w1.heap.size := blk_lt HT1.out.now.blk; have hk3 := (h3.block g (by simpa [World.setCell] using hgl)).trans (blk_set (blk_set (blk_set (blk_set HT1.out.now.blk 3 _) 4 _) 5 _) 6 _); have hz7 : 7 < cs1.size := (Array.getElem?_eq_some_iff.1 HT1.out.mov).1; have hx : ∀ i, i < 3 → ∃ v, w3.cell? ⟨g, i, none⟩ = some v := (fun i hi => ⟨_, (blk_cell hk3 i).trans (Array.getElem?_eq_getElem (by simp; omega))⟩); obtain ⟨x0, hx0⟩ := hx 0 (by decide); obtain ⟨x1, hx1⟩ := hx 1 (by decide); obtain ⟨x2, hx2⟩ := hx 2 (by decide); have hxf : ∀ j, w3.frozen? ⟨g, j, none⟩ = false := (fun j => blk_frozen hk3 j); clear h1 h2 h3 hx hk3 hz7 hgl))
  go_end0
  have hon : t1.old = Tab.none_ := HM1.out.non (by rw [HM1.out.cntO, HC.out])
  obtain ⟨cs', q1, q2⟩ := HT1.out.grow_ (w3 := w3) (A := A) (b := t1.now.bits + 1) (n := 2 ^ (t1.now.bits + 1)) (by rw [HVAL.out]; exact HB.out) HA.out (by rw [HVAL.out]; exact HLE.out) HM1.out.inv.fit.adr
  obtain ⟨g1, g2, g3⟩ := HM1.out.inv.grown hon HBB.out (fun x => (tabHome_is (t1.now.bits + 1) x (by omega) HBB.out).2) A
  refine ⟨rfl, cs', _, q1, g1, fun k v => (g2 k v).trans (HM1.out.has k v), g3.trans HM1.out.len, ?_, ?_, ?_, HM1.out.nl, Tab.cnt_rep _, HU1.out.trans q2⟩
  · show t1.moves = _
    rw [HM1.out.moves]; simp
  · show (List.replicate (2 ^ (t1.now.bits + 1)) Tab.z).length = _
    rw [List.length_replicate, ← HM1.out.nl, HM1.out.inv.fit.len, Nat.pow_succ]; omega
  · show t1.now.bits + 1 = _
    rw [Tab.Fit.bits_eq HM1.out.inv.fit HI.out.fit HM1.out.nl]


/-! ### lookup_Table_Put: function 46 -/
-- by hand
/-- What stands behind a Put. -/
def PutPost (g : Nat) (t : Tab.Tb) (key node : Int) (w : World) (e : Ending) (w' : World) : Prop := ∃ (b : Bool) (cs' : Array Value) (t' : Tab.Tb), e = .returned (.bool b) ∧ Tab.TbAt 111 107 w' g cs' t' ∧ Tab.PutEnd tabHome t t' key node b ∧ Mut (t.foot g) w (t'.foot g) w'
set_option maxRecDepth 100000 in
set_option maxHeartbeats 4000000 in
theorem lookup_Table_Put.old {g : Nat} {cs : Array Value} {t : Tab.Tb} {w : World} (key node : Int) (hT : Tab.TbAt 111 107 w g cs t) (hI : Tab.TInv tabHome 0 t) (hv0 : 0 ≤ t.moves) (hv1 : t.moves + 4 < 18446744073709551616)
    (ho : Tab.Old tabHome t) {i : Nat} (hi : i < t.old.sl.length) (ht : (Tab.at_ t.old.sl i).t = true) (hk : (Tab.at_ t.old.sl i).k = key)
    (hf : Calls Try.prog 85 #[.pointer (some ⟨g, 3, none⟩), .int .u64 key] w fun e w' => e = .returned (.tuple #[.int .i64 (i : Int), .bool true]) ∧ ∃ nd, w' = w.drewN nd) :
    Calls Try.prog 46 #[.pointer (some ⟨g, 0, none⟩), .int .u64 key, .int .i32 node] w (PutPost g t key node w) := by
  have HT := Aside0.mk hT
  have HI := Aside0.mk hI
  have HV0 := Aside0.mk hv0
  have HV1 := Aside0.mk hv1
  have HP := Aside0.mk (hI.putOld ho hi ht hk node)
  have HF := Aside0.mk hf
  have HNW := Aside0.mk (show (false = true) ↔ ∀ v, ¬ t.has key v from ⟨fun h => absurd h (by simp), fun h => absurd (show t.has key (Tab.at_ t.old.sl i).n from .inr (hk ▸ Tab.Has.mk hi ht)) (h _)⟩)
  obtain ⟨A, hA⟩ := Option.ne_none_iff_exists'.1 ho.fit.adr
  have HN := Aside0.mk (fun nd => (hT.drewN nd).node_ hA hi ht hk node)
  have hv : t.old.val = .slice (some ⟨A, 0, none⟩) t.old.sl.length t.old.sl.length := by unfold Tab.Rw.val; rw [hA]; rfl
  have hc1 : ∀ nd, (w.drewN nd).cell? ⟨g, 4, none⟩ = some (.slice (some ⟨A, 0, none⟩) t.old.sl.length t.old.sl.length) := fun nd => ((blk_cell hT.old.blk 4).trans hT.old.c1).trans (by rw [hv])
  obtain ⟨_, hs1, _⟩ := Tab.arr_cell (hT.old.arr A hA).1 hi
  have hs : ∀ nd, (w.drewN nd).cell? ⟨A, i * 3 + 1, none⟩ = some (.int .i32 (Tab.at_ t.old.sl i).n) := fun nd => hs1
  have hfA : ∀ nd j, (w.drewN nd).frozen? ⟨A, j, none⟩ = false := fun nd j => blk_frozen (hT.old.arr A hA).1 j
  have hsm := ho.fit.small
  have HL := Aside0.mk (show t.now.sl.length ≤ 1099511627776 from Nat.le_trans hI.fit.small (by decide))
  generalize (Tab.at_ t.old.sl i).n = xn at hs
  obtain ⟨n, hn⟩ : ∃ n, n = t.old.sl.length := ⟨_, rfl⟩
  rw [← hn] at hi hc1 hsm
  have i0 : (0 : Int) ≤ (i : Int) := by omega
  have i1' : (i : Int) < (n : Int) := by omega
  clear hT hI hv0 hv1 ho ht hk hf hv hs1 hn
  go_enter_defers Try.func46, Try.ntmps46
  go_wp2_with (go_at_call 85; (with_reducible refine HF.out.mono ?_); rintro e w' ⟨rfl, ⟨nd, rfl⟩⟩)
  obtain ⟨hT2, hM2⟩ := HN.out nd
  refine leaves_one (f := 84) (args := #[.pointer (some ⟨g, 0, none⟩), .int .i64 4]) (by simp [go_sem]) (lookup_Table_move.callsD (most := 4) hT2 HP.out.inv (by decide) (by rw [HP.out.moves]; exact HV0.out) (by rw [HP.out.moves]; exact HV1.out) HL.out) ?_
  rintro e w' ⟨rfl, cs', t', h1, h2, h3⟩
  exact ⟨_, rfl, _, results_tmp rfl _ _ _, false, cs', t', rfl, h1, HP.out.moved h2 HNW.out, ((Mut.refl _ w).drewN nd).trans (hM2.trans h3)⟩
set_option maxRecDepth 100000 in
set_option maxHeartbeats 4000000 in
theorem lookup_Table_Put.now {g : Nat} {cs : Array Value} {t : Tab.Tb} {w : World} (key node : Int) (hT : Tab.TbAt 111 107 w g cs t) (hI : Tab.TInv tabHome 0 t) (hv0 : 0 ≤ t.moves) (hv1 : t.moves + 4 < 18446744073709551616)
    {j i : Nat} (hf : Calls Try.prog 85 #[.pointer (some ⟨g, 3, none⟩), .int .u64 key] w fun e w' => e = .returned (.tuple #[.int .i64 (j : Int), .bool false]) ∧ ∃ nd, w' = w.drewN nd)
    (hpr : Tab.probe t.now.sl key (t.now.sl.length + 1) (tabHome t.now.bits key) = some (i, true)) (hi : i < t.now.sl.length) (ht : (Tab.at_ t.now.sl i).t = true) (hk : (Tab.at_ t.now.sl i).k = key) :
    Calls Try.prog 46 #[.pointer (some ⟨g, 0, none⟩), .int .u64 key, .int .i32 node] w (PutPost g t key node w) := by
  have HT := Aside0.mk hT
  have HI := Aside0.mk hI
  have HV0 := Aside0.mk hv0
  have HV1 := Aside0.mk hv1
  have HP := Aside0.mk (hI.putNow hi ht hk node)
  have HF := Aside0.mk hf
  have HNW := Aside0.mk (show (false = true) ↔ ∀ v, ¬ t.has key v from ⟨fun h => absurd h (by simp), fun h => absurd (show t.has key (Tab.at_ t.now.sl i).n from .inl (hk ▸ Tab.Has.mk hi ht)) (h _)⟩)
  have hload := hI.load
  have hl1 : t.len = Tab.cnt t.now.sl + Tab.cnt t.old.sl := rfl
  have hsm := hI.fit.small
  have HL := Aside0.mk (show t.now.sl.length ≤ 1099511627776 from Nat.le_trans hsm (by decide))
  have HLL := Aside0.mk (show (t.now.sl.set i ⟨key, node, true⟩).length ≤ 1099511627776 by rw [List.length_set]; exact HL.out)
  have HM := Aside0.mk (show 0 ≤ t.now.many ∧ t.now.many ≤ 1099511627776 by rw [hI.many]; omega)
  have HPR := Aside0.mk hpr
  have HI_ := Aside0.mk hi
  have HQ := Aside0.mk (fun nd => lookup_rows_find.calls (hT.now.drewN nd) hI.fit hpr)
  clear hT hI hv0 hv1 ht hk hf hpr hi hload hl1 hsm
  go_enter_defers Try.func46, Try.ntmps46
  go_wp2_with (first
    | (go_at_call 85; (with_reducible refine HF.out.mono ?_); rintro e w' ⟨rfl, ⟨nd, rfl⟩⟩)
    | (go_at_call 85; (with_reducible refine (HQ.out _).mono ?_); rintro e w' ⟨rfl, ⟨nd2, rfl⟩⟩))
  go_quiet (fail)
  go_wp2_with (go_at_call 87; refine (lookup_rows_put.calls (node := node) (HT.out.drewN _).now HI.out.fit HPR.out HI_.out HM.out.1 HM.out.2).mono ?_; rintro e w' ⟨rfl, cs3, hr3, hcs3, hmu3⟩; obtain ⟨hT6, hM6⟩ := (HT.out.drewN _).now_ hr3 rfl hcs3 hmu3; have HT6 := Aside0.mk hT6; have HM6 := Aside0.mk hM6; clear hr3 hcs3 hmu3 hT6 hM6)
  simp only [if_true] at HT6
  refine leaves_one (f := 84) (args := #[.pointer (some ⟨g, 0, none⟩), .int .i64 4]) (by simp [go_sem]) (lookup_Table_move.callsD (most := 4) HT6.out HP.out.inv (by decide) (by rw [HP.out.moves]; exact HV0.out) (by rw [HP.out.moves]; exact HV1.out) HLL.out) ?_
  rintro e w' ⟨rfl, cs', t', h1, h2, h3⟩
  exact ⟨_, rfl, _, results_tmp rfl _ _ _, false, cs', t', rfl, h1, HP.out.moved h2 HNW.out, ((Mut.refl _ w).drewN _).trans (HM6.out.trans h3)⟩
set_option maxRecDepth 100000 in
set_option maxHeartbeats 4000000 in
theorem lookup_Table_Put.fresh {g : Nat} {cs : Array Value} {t : Tab.Tb} {w : World} (key node : Int) (hT : Tab.TbAt 111 107 w g cs t) (hI : Tab.TInv tabHome 0 t) (hv0 : 0 ≤ t.moves) (hv1 : t.moves + 4 < 18446744073709551616)
    {j i : Nat} (hf : Calls Try.prog 85 #[.pointer (some ⟨g, 3, none⟩), .int .u64 key] w fun e w' => e = .returned (.tuple #[.int .i64 (j : Int), .bool false]) ∧ ∃ nd, w' = w.drewN nd)
    (hpr : Tab.probe t.now.sl key (t.now.sl.length + 1) (tabHome t.now.bits key) = some (i, false)) (hi : i < t.now.sl.length) (ht : (Tab.at_ t.now.sl i).t = false)
    (hr : ∀ q, q < t.now.sl.length → Tab.dst t.now.sl.length q (tabHome t.now.bits key) < Tab.dst t.now.sl.length i (tabHome t.now.bits key) → (Tab.at_ t.now.sl q).t = true)
    (hno : ∀ p, p < t.now.sl.length → (Tab.at_ t.now.sl p).t = true → (Tab.at_ t.now.sl p).k ≠ key) (hno2 : ∀ v, ¬ Tab.Has t.old.sl key v) (hc : 2 * (t.len + 1) ≤ t.now.sl.length) :
    Calls Try.prog 46 #[.pointer (some ⟨g, 0, none⟩), .int .u64 key, .int .i32 node] w (PutPost g t key node w) := by
  have HT := Aside0.mk hT
  have HI := Aside0.mk hI
  have HV0 := Aside0.mk hv0
  have HV1 := Aside0.mk hv1
  have HP := Aside0.mk (hI.putNew hi ht hr hno hno2 hc node)
  have HF := Aside0.mk hf
  have HNW := Aside0.mk (show ∀ v, ¬ t.has key v from fun v h => h.elim (Tab.none_free hno v) (hno2 v))
  have hload := hI.load
  have hl1 : t.len = Tab.cnt t.now.sl + Tab.cnt t.old.sl := rfl
  have hsm := hI.fit.small
  have HL := Aside0.mk (show t.now.sl.length ≤ 1099511627776 from Nat.le_trans hsm (by decide))
  have HLL := Aside0.mk (show (t.now.sl.set i ⟨key, node, true⟩).length ≤ 1099511627776 by rw [List.length_set]; exact HL.out)
  have HM := Aside0.mk (show 0 ≤ t.now.many ∧ t.now.many ≤ 1099511627776 by rw [hI.many]; omega)
  have HPR := Aside0.mk hpr
  have HI_ := Aside0.mk hi
  have HQ := Aside0.mk (fun nd => lookup_rows_find.calls (hT.now.drewN nd) hI.fit hpr)
  have HLEN := Aside0.mk (fun nd => lookup_Table_Len.calls (hT.drewN nd) hI HL.out)
  obtain ⟨A, hA⟩ := Option.ne_none_iff_exists'.1 hI.fit.adr
  have hv : t.now.val = .slice (some ⟨A, 0, none⟩) t.now.sl.length t.now.sl.length := by unfold Tab.Rw.val; rw [hA]; rfl
  have hc1 : ∀ nd, (w.drewN nd).cell? ⟨g, 1, none⟩ = some (.slice (some ⟨A, 0, none⟩) t.now.sl.length t.now.sl.length) := fun nd => ((blk_cell hT.now.blk 1).trans hT.now.c1).trans (by rw [hv])
  obtain ⟨n, hn⟩ : ∃ n, n = t.now.sl.length := ⟨_, rfl⟩
  obtain ⟨L, hL⟩ : ∃ L, L = t.len := ⟨_, rfl⟩
  rw [← hL] at HLEN
  rw [← hn] at hc1
  have b1 : decide ((n : Int) < 2 * ((L : Int) + 1)) = false := decide_eq_false (by omega)
  have b2 : wrap64 (2 * ((L : Int) + 1)) = 2 * ((L : Int) + 1) := by unfold wrap64; omega
  have b3 : wrap64 ((L : Int) + 1) = (L : Int) + 1 := by unfold wrap64; omega
  have b4 : IntKind.i64.wrap (2 * ((L : Int) + 1)) = 2 * ((L : Int) + 1) := by rw [IntKind.wrap_i64]; omega
  have b5 : IntKind.i64.wrap ((L : Int) + 1) = (L : Int) + 1 := by rw [IntKind.wrap_i64]; omega
  clear hT hI hv0 hv1 ht hf hpr hi hload hl1 hsm hc hr hno hno2 hA hv hn hL
  go_enter_defers Try.func46, Try.ntmps46
  go_wp2_with (first
    | (go_at_call 85; (with_reducible refine HF.out.mono ?_); rintro e w' ⟨rfl, ⟨nd, rfl⟩⟩)
    | (go_at_call 85; (with_reducible refine (HQ.out _).mono ?_); rintro e w' ⟨rfl, ⟨nd2, rfl⟩⟩))
  go_quiet ((go_at_call 47; exact quiet_more (HLEN.out _)))
  go_wp2_with (go_at_call 87; refine (lookup_rows_put.calls (node := node) (HT.out.drewN _).now HI.out.fit HPR.out HI_.out HM.out.1 HM.out.2).mono ?_; rintro e w' ⟨rfl, cs3, hr3, hcs3, hmu3⟩; obtain ⟨hT6, hM6⟩ := (HT.out.drewN _).now_ hr3 rfl hcs3 hmu3; have HT6 := Aside0.mk hT6; have HM6 := Aside0.mk hM6; clear hr3 hcs3 hmu3 hT6 hM6)
  simp only [Bool.false_eq_true, if_false] at HT6
  refine leaves_one (f := 84) (args := #[.pointer (some ⟨g, 0, none⟩), .int .i64 4]) (by simp [go_sem]) (lookup_Table_move.callsD (most := 4) HT6.out HP.out.inv (by decide) (by rw [HP.out.moves]; exact HV0.out) (by rw [HP.out.moves]; exact HV1.out) HLL.out) ?_
  rintro e w' ⟨rfl, cs', t', h1, h2, h3⟩
  exact ⟨_, rfl, _, results_tmp rfl _ _ _, true, cs', t', rfl, h1, HP.out.moved h2 ⟨fun _ => HNW.out, fun _ => rfl⟩, ((Mut.refl _ w).drewN _).trans (HM6.out.trans h3)⟩
/-- Twice as many slots, then a new key. -/
theorem PutEnd.grown {t t1 t2 : Tab.Tb} {key node : Int} (h : Tab.PutEnd tabHome t1 t2 key node true) (hh : ∀ k v, t1.has k v ↔ t.has k v) (hl : t1.len = t.len) (hm : t1.moves = t.moves) (hn : t1.now.sl.length = 2 * t.now.sl.length) (hL : 2 * t.len ≤ t.now.sl.length) (hp : 1 ≤ t.now.sl.length) (hf : t.now.sl.length < 2 * (t.len + 1)) :
    Tab.PutEnd tabHome t t2 key node true := by
  have h1 := h.len
  have h2 := h.nl
  rw [hl] at h1 h2
  rw [hn] at h2
  refine ⟨h.inv, fun k v => by rw [h.has, hh], h1, ?_, by rw [← hm]; exact h.lo, by rw [← hm]; exact h.hi, by rw [h.new]; simp only [hh], fun _ hx => absurd ⟨rfl, hf⟩ hx⟩
  rw [h2, if_neg (by omega), if_pos ⟨rfl, hf⟩]
set_option maxRecDepth 100000 in
set_option maxHeartbeats 4000000 in
theorem lookup_Table_Put.full {g : Nat} {cs : Array Value} {t : Tab.Tb} {w : World} (key node : Int) (hT : Tab.TbAt 111 107 w g cs t) (hI : Tab.TInv tabHome 0 t) (hv0 : 0 ≤ t.moves) (hv1 : t.moves + 4 < 18446744073709551616) (hb : t.now.bits < 30)
    {j i : Nat} (hf : Calls Try.prog 85 #[.pointer (some ⟨g, 3, none⟩), .int .u64 key] w fun e w' => e = .returned (.tuple #[.int .i64 (j : Int), .bool false]) ∧ ∃ nd, w' = w.drewN nd)
    (hpr : Tab.probe t.now.sl key (t.now.sl.length + 1) (tabHome t.now.bits key) = some (i, false))
    (hno : ∀ v, ¬ t.has key v) (hc : t.now.sl.length < 2 * (t.len + 1)) :
    Calls Try.prog 46 #[.pointer (some ⟨g, 0, none⟩), .int .u64 key, .int .i32 node] w (PutPost g t key node w) := by
  have HT := Aside0.mk hT
  have HI := Aside0.mk hI
  have HV0 := Aside0.mk hv0
  have HV1 := Aside0.mk hv1
  have HB := Aside0.mk hb
  have HC := Aside0.mk hc
  have HNO := Aside0.mk hno
  have HF := Aside0.mk hf
  have hload := hI.load
  have hsm := hI.fit.small
  have HZ := Aside0.mk (hI.full hc)
  have HQ := Aside0.mk (fun nd => lookup_rows_find.calls (hT.now.drewN nd) hI.fit hpr)
  have HLEN := Aside0.mk (fun nd => lookup_Table_Len.calls (hT.drewN nd) hI (Nat.le_trans hsm (by decide)))
  have HGR := Aside0.mk (fun nd => lookup_Table_grow.calls (hT.drewN nd) hI (hI.full hc) hb hv0 (by omega))
  obtain ⟨A, hA⟩ := Option.ne_none_iff_exists'.1 hI.fit.adr
  have hv : t.now.val = .slice (some ⟨A, 0, none⟩) t.now.sl.length t.now.sl.length := by unfold Tab.Rw.val; rw [hA]; rfl
  have hc1 : ∀ nd, (w.drewN nd).cell? ⟨g, 1, none⟩ = some (.slice (some ⟨A, 0, none⟩) t.now.sl.length t.now.sl.length) := fun nd => ((blk_cell hT.now.blk 1).trans hT.now.c1).trans (by rw [hv])
  obtain ⟨n, hn⟩ : ∃ n, n = t.now.sl.length := ⟨_, rfl⟩
  obtain ⟨L, hL⟩ : ∃ L, L = t.len := ⟨_, rfl⟩
  rw [← hL] at HLEN
  rw [← hn] at hc1
  have b1 : decide ((n : Int) < 2 * ((L : Int) + 1)) = true := decide_eq_true (by omega)
  have b2 : wrap64 (2 * ((L : Int) + 1)) = 2 * ((L : Int) + 1) := by unfold wrap64; omega
  have b3 : wrap64 ((L : Int) + 1) = (L : Int) + 1 := by unfold wrap64; omega
  have b4 : IntKind.i64.wrap (2 * ((L : Int) + 1)) = 2 * ((L : Int) + 1) := by rw [IntKind.wrap_i64]; omega
  have b5 : IntKind.i64.wrap ((L : Int) + 1) = (L : Int) + 1 := by rw [IntKind.wrap_i64]; omega
  clear hT hI hv0 hv1 hf hpr hload hsm hc hno hA hv hn hL hb
  go_enter_defers Try.func46, Try.ntmps46
  go_wp2_with (first
    | (go_at_call 85; (with_reducible refine HF.out.mono ?_); rintro e w' ⟨rfl, ⟨nd, rfl⟩⟩)
    | (go_at_call 85; (with_reducible refine (HQ.out _).mono ?_); rintro e w' ⟨rfl, ⟨nd2, rfl⟩⟩))
  go_quiet ((go_at_call 47; exact quiet_more (HLEN.out _)))
  go_wp2_with (first
    | (go_at_call 86; (with_reducible refine (HGR.out _).mono ?_); rintro e w1 ⟨rfl, cs1, t1, g1, g2, g3, g4, g5, g6, g7, g8, g9, g10⟩; have G1 := Aside0.mk g1; have G2 := Aside0.mk g2; have G3 := Aside0.mk g3; have G4 := Aside0.mk g4; have G5 := Aside0.mk g5; have G6 := Aside0.mk g6; have G10 := Aside0.mk g10; clear g1 g2 g3 g4 g5 g6 g7 g8 g9 g10; obtain ⟨i1, bb, p1, p2, p3, p4⟩ := Tab.probe_from G2.out.inv key; have P1 := Aside0.mk p1; have P2 := Aside0.mk p2; have P3 := Aside0.mk p3; have P4 := Aside0.mk p4; have HM := Aside0.mk (show 0 ≤ t1.now.many ∧ t1.now.many ≤ 1099511627776 by (have h1 := G2.out.many; have h2 := G2.out.fit.small; have h3 := Tab.cnt_le t1.now.sl; rw [h1]; omega)); clear p1 p2 p3 p4)
    | (go_at_call 87; refine (lookup_rows_put.calls (node := node) G1.out.now G2.out.fit P1.out P2.out HM.out.1 HM.out.2).mono ?_; rintro e w' ⟨rfl, cs3, hr3, hcs3, hmu3⟩; obtain ⟨hT6, hM6⟩ := G1.out.now_ hr3 rfl hcs3 hmu3; have HT6 := Aside0.mk hT6; have HM6 := Aside0.mk hM6; clear hr3 hcs3 hmu3 hT6 hM6))
  have hbf : bb = false := by
    cases bb with
    | false => rfl
    | true =>
      obtain ⟨q1, q2⟩ := P3.out rfl
      exact absurd ((G3.out _ _).1 (.inl (q2 ▸ Tab.Has.mk P2.out q1))) (HNO.out _)
  subst hbf
  obtain ⟨q1, q2, q3⟩ := P4.out rfl
  have hl0 := HI.out.load
  have hl1 := HC.out
  have hp1 : 1 ≤ t.now.sl.length := by rw [HI.out.fit.len]; exact Nat.one_le_two_pow
  have hP := G2.out.putNew P2.out q1 q2 q3 (fun v h => HNO.out v ((G3.out _ _).1 (.inr h))) (by rw [G4.out, G6.out]; omega) node
  simp only [Bool.false_eq_true, if_false] at HT6
  refine leaves_one (f := 84) (args := #[.pointer (some ⟨g, 0, none⟩), .int .i64 4]) (by simp [go_sem]) (lookup_Table_move.callsD (most := 4) HT6.out hP.inv (by decide) (by rw [hP.moves, G5.out]; exact HV0.out) (by rw [hP.moves, G5.out]; exact HV1.out) (Nat.le_trans hP.inv.fit.small (by decide))) ?_
  rintro e w' ⟨rfl, cs', t', h1, h2, h3⟩
  refine ⟨_, rfl, _, results_tmp rfl _ _ _, true, cs', t', rfl, h1, PutEnd.grown (hP.moved h2 ⟨fun _ v h => HNO.out v ((G3.out _ _).1 h), fun _ => rfl⟩) G3.out G4.out G5.out G6.out hl0 hp1 HC.out, ((Mut.refl _ w).drewN _).trans (G10.out.trans (HM6.out.trans h3))⟩
/-- A Put, of any key. -/
theorem lookup_Table_Put.calls {g : Nat} {cs : Array Value} {t : Tab.Tb} {w : World} (key node : Int) (hT : Tab.TbAt 111 107 w g cs t) (hI : Tab.TInv tabHome 0 t) (hv0 : 0 ≤ t.moves) (hv1 : t.moves + 4 < 18446744073709551616) (hb : t.now.bits < 30) :
    Calls Try.prog 46 #[.pointer (some ⟨g, 0, none⟩), .int .u64 key, .int .i32 node] w (PutPost g t key node w) := by
  obtain ⟨i1, b1, q1, q2, q3⟩ := lookup_rows_find.any hT.old (tinv_any hI) key
  have q30 : Calls Try.prog 85 #[.pointer (some ⟨g, 3, none⟩), .int .u64 key] w fun e w' => e = .returned (.tuple #[.int .i64 (i1 : Int), .bool b1]) ∧ ∃ nd, w' = w.drewN nd := q3 0
  cases b1 with
  | true =>
    obtain ⟨h1, h2, h3⟩ := q1 rfl
    exact lookup_Table_Put.old key node hT hI hv0 hv1 (hI.isOld h1) h1 h2 h3 q30
  | false =>
    obtain ⟨i, b, p1, p2, p3, p4⟩ := Tab.probe_from hI.inv key
    cases b with
    | true => exact lookup_Table_Put.now key node hT hI hv0 hv1 q30 p1 p2 (p3 rfl).1 (p3 rfl).2
    | false =>
      obtain ⟨r1, r2, r3⟩ := p4 rfl
      by_cases hc : 2 * (t.len + 1) ≤ t.now.sl.length
      · exact lookup_Table_Put.fresh key node hT hI hv0 hv1 q30 p1 p2 r1 r2 r3 (Tab.none_free (q2 rfl)) hc
      · exact lookup_Table_Put.full key node hT hI hv0 hv1 hb q30 p1 (fun v h => h.elim (Tab.none_free r3 v) (Tab.none_free (q2 rfl) v)) (by omega)
set_option maxRecDepth 100000 in
set_option maxHeartbeats 4000000 in
theorem lookup_Table_Put.nil (key node : Int) (w : World) : Calls Try.prog 46 #[.pointer none, .int .u64 key, .int .i32 node] w fun e w' => e = .returned (.bool false) ∧ w' = w := by
  go_enter_defers Try.func46, Try.ntmps46
  go_wp2
  exact ⟨_, results_tmp rfl _ _ _, rfl, rfl⟩


/-! ### lookup_Table_Find: function 49 -/
-- by hand
set_option maxRecDepth 100000 in
set_option maxHeartbeats 4000000 in
theorem lookup_Table_Find.calls {g sk : Nat} {cs : Array Value} {t : Tab.Tb} {w : World} (key : Int) (hT : Tab.TbAt 111 107 w g cs t) (hI : Tab.TInv tabHome sk t) :
    Calls Try.prog 49 #[.pointer (some ⟨g, 0, none⟩), .int .u64 key] w fun e w' => ∃ (n : Int) (b : Bool), e = .returned (.tuple #[.int .i32 n, .bool b]) ∧ (b = true → t.has key n) ∧ (b = false → n = 0 ∧ ∀ v, ¬ t.has key v) ∧ ∃ nd, w' = w.drewN nd := by
  obtain ⟨i1, b1, p1, p2, p3⟩ := lookup_rows_find.any hT.now (.inr ⟨hI.fit, hI.inv⟩) key
  obtain ⟨i2, b2, q1, q2, q3⟩ := lookup_rows_find.any hT.old (tinv_any hI) key
  have q30 := p3 0
  have HP := Aside0.mk p3
  have HQ := Aside0.mk q3
  have HT := Aside0.mk hT
  have HP0 := Aside0.mk (show Calls Try.prog 85 #[.pointer (some ⟨g, 0, none⟩), .int .u64 key] w _ from q30)
  clear q30 p3 q3
  cases b1 with
  | true =>
    obtain ⟨h1, h2, h3⟩ := p1 rfl
    obtain ⟨A, hA⟩ := Option.ne_none_iff_exists'.1 hI.fit.adr
    have hv : t.now.val = .slice (some ⟨A, 0, none⟩) t.now.sl.length t.now.sl.length := by unfold Tab.Rw.val; rw [hA]; rfl
    have hc1 : ∀ nd, (w.drewN nd).cell? ⟨g, 1, none⟩ = some (.slice (some ⟨A, 0, none⟩) t.now.sl.length t.now.sl.length) := fun nd => ((blk_cell hT.now.blk 1).trans hT.now.c1).trans (by rw [hv])
    obtain ⟨_, hs1, _⟩ := Tab.arr_cell (hT.now.arr A hA).1 h1
    have hs : ∀ nd, (w.drewN nd).cell? ⟨A, i1 * 3 + 1, none⟩ = some (.int .i32 (Tab.at_ t.now.sl i1).n) := fun nd => hs1
    have HH := Aside0.mk (show t.has key (Tab.at_ t.now.sl i1).n from .inl (h3 ▸ Tab.Has.mk h1 h2))
    generalize Tab.at_ t.now.sl i1 = x at hs HH
    generalize t.now.sl.length = n at h1 hc1
    have i0 : (0 : Int) ≤ (i1 : Int) := by omega
    have i1' : (i1 : Int) < (n : Int) := by omega
    clear p1 p2 q1 q2 hT hI h2 h3 hA hv hs1
    go_enter Try.func49, Try.ntmps49
    go_wp2_with (go_at_call 85; (with_reducible refine HP0.out.mono ?_); rintro e w' ⟨rfl, ⟨nd, rfl⟩⟩)
    go_ret2
    exact ⟨x.n, true, rfl, fun _ => HH.out, fun h => absurd h (by simp), _, rfl⟩
  | false =>
    cases b2 with
    | true =>
      obtain ⟨h1, h2, h3⟩ := q1 rfl
      have hne : t.old.adr ≠ none := fun hn => by rw [hT.old.non hn] at h1; exact absurd h1 (by simp)
      obtain ⟨A, hA⟩ := Option.ne_none_iff_exists'.1 hne
      have hv : t.old.val = .slice (some ⟨A, 0, none⟩) t.old.sl.length t.old.sl.length := by unfold Tab.Rw.val; rw [hA]; rfl
      have hc1 : ∀ nd, (w.drewN nd).cell? ⟨g, 4, none⟩ = some (.slice (some ⟨A, 0, none⟩) t.old.sl.length t.old.sl.length) := fun nd => ((blk_cell hT.old.blk 4).trans hT.old.c1).trans (by rw [hv])
      obtain ⟨_, hs1, _⟩ := Tab.arr_cell (hT.old.arr A hA).1 h1
      have hs : ∀ nd, (w.drewN nd).cell? ⟨A, i2 * 3 + 1, none⟩ = some (.int .i32 (Tab.at_ t.old.sl i2).n) := fun nd => hs1
      have HH := Aside0.mk (show t.has key (Tab.at_ t.old.sl i2).n from .inr (h3 ▸ Tab.Has.mk h1 h2))
      generalize Tab.at_ t.old.sl i2 = x at hs HH
      generalize t.old.sl.length = n at h1 hc1
      have i0 : (0 : Int) ≤ (i2 : Int) := by omega
      have i1' : (i2 : Int) < (n : Int) := by omega
      clear p1 p2 q1 q2 hT hI h2 h3 hA hv hs1 hne
      go_enter Try.func49, Try.ntmps49
      go_wp2_with (first
        | (go_at_call 85; (with_reducible refine HP0.out.mono ?_); rintro e w' ⟨rfl, ⟨nd, rfl⟩⟩)
        | (go_at_call 85; (with_reducible refine (HQ.out _).mono ?_); rintro e w' ⟨rfl, ⟨nd, rfl⟩⟩))
      go_ret2
      exact ⟨x.n, true, rfl, fun _ => HH.out, fun h => absurd h (by simp), _, rfl⟩
    | false =>
      have HH := Aside0.mk (show ∀ v, ¬ t.has key v by
        rintro v (⟨p, hp, hat⟩ | ⟨p, hp, hat⟩)
        · exact p2 rfl p hp (by rw [hat]) (by rw [hat])
        · exact q2 rfl p hp (by rw [hat]) (by rw [hat]))
      clear p1 p2 q1 q2 hT hI
      go_enter Try.func49, Try.ntmps49
      go_wp2_with (first
        | (go_at_call 85; (with_reducible refine HP0.out.mono ?_); rintro e w' ⟨rfl, ⟨nd, rfl⟩⟩)
        | (go_at_call 85; (with_reducible refine (HQ.out _).mono ?_); rintro e w' ⟨rfl, ⟨nd, rfl⟩⟩))
      go_ret2
      exact ⟨0, false, rfl, fun h => absurd h (by simp), fun _ => ⟨rfl, HH.out⟩, _, rfl⟩
set_option maxRecDepth 100000 in
set_option maxHeartbeats 4000000 in
theorem lookup_Table_Find.nil (key : Int) (w : World) : Calls Try.prog 49 #[.pointer none, .int .u64 key] w fun e w' => e = .returned (.tuple #[.int .i32 0, .bool false]) ∧ w' = w := by
  go_enter Try.func49, Try.ntmps49
  go_wp2
  go_ret2
  exact ⟨rfl, rfl⟩


/-! ### lookup_Table_Moves: function 50 -/
-- by hand
set_option maxRecDepth 100000 in
set_option maxHeartbeats 4000000 in
theorem lookup_Table_Moves.calls {g : Nat} {cs : Array Value} {t : Tab.Tb} {w : World} (hT : Tab.TbAt 111 107 w g cs t) :
    Calls Try.prog 50 #[.pointer (some ⟨g, 0, none⟩)] w fun e w' => e = .returned (.int .u64 t.moves) ∧ w' = w := by
  have hc1 : w.cell? ⟨g, 7, none⟩ = some (.int .u64 t.moves) := (blk_cell hT.now.blk 7).trans hT.mov
  clear hT
  go_enter Try.func50, Try.ntmps50
  go_wp2
  go_ret
  exact ⟨rfl, rfl⟩
set_option maxRecDepth 100000 in
set_option maxHeartbeats 4000000 in
theorem lookup_Table_Moves.nil (w : World) : Calls Try.prog 50 #[.pointer none] w fun e w' => e = .returned (.int .u64 0) ∧ w' = w := by
  go_enter Try.func50, Try.ntmps50
  go_wp2
  go_ret
  exact ⟨rfl, rfl⟩


/-! ### lookup_Table_Slots: function 61 -/
-- by hand
set_option maxRecDepth 100000 in
set_option maxHeartbeats 4000000 in
theorem lookup_Table_Slots.calls {g : Nat} {cs : Array Value} {t : Tab.Tb} {w : World} (hT : Tab.TbAt 111 107 w g cs t) :
    Calls Try.prog 61 #[.pointer (some ⟨g, 0, none⟩)] w fun e w' => e = .returned (.int .i64 (t.now.sl.length : Int)) ∧ w' = w := by
  have hc1 : w.cell? ⟨g, 1, none⟩ = some t.now.val := (blk_cell hT.now.blk 1).trans hT.now.c1
  unfold Tab.Rw.val at hc1
  clear hT
  generalize t.now.sl.length = a at hc1 ⊢
  go_enter Try.func61, Try.ntmps61
  go_wp2
  go_ret
  exact ⟨rfl, rfl⟩
set_option maxRecDepth 100000 in
set_option maxHeartbeats 4000000 in
theorem lookup_Table_Slots.nil (w : World) : Calls Try.prog 61 #[.pointer none] w fun e w' => e = .returned (.int .i64 0) ∧ w' = w := by
  go_enter Try.func61, Try.ntmps61
  go_wp2
  go_ret
  exact ⟨rfl, rfl⟩


/-! ### hutchlaw06_alive: function 51 -/
-- by hand
/-- What holds of the example's table behind so many Puts. -/
structure AlT (t : Tab.Tb) (i : Nat) : Prop where
  has : ∀ k v, t.has k v ↔ 1 ≤ k ∧ k ≤ (i : Int) ∧ v = k
  len : t.len = i
  nl : t.now.sl.length = if i ≤ 4 then 8 else 16
  mv : 0 ≤ t.moves ∧ t.moves ≤ if i ≤ 4 then 0 else 4
  old : i ≤ 4 → Tab.cnt t.old.sl = 0
theorem AlT.put {t t2 : Tab.Tb} {i : Nat} {b : Bool} (h : AlT t i) (hi : i ≤ 4) (hp : Tab.PutEnd tabHome t t2 ((i : Int) + 1) ((i : Int) + 1) b) : b = true ∧ AlT t2 (i + 1) := by
  have hb : b = true := hp.new.2 (fun v hv => by have := (h.has _ _).1 hv; omega)
  subst hb
  have h1 := hp.len
  have h2 := hp.nl
  have h3 := h.len
  have h4 := h.nl
  have h5 := h.mv
  have h6 := hp.lo
  have h7 := hp.hi
  have h8 := hp.still (h.old hi)
  rw [if_pos hi] at h4 h5
  simp only [true_and, if_true] at h1 h2 h8
  refine ⟨rfl, fun k v => ?_, by omega, ?_, ?_, fun hi2 => (h8 (by omega)).2⟩
  · rw [hp.has, h.has]
    push_cast
    omega
  · rw [h2]
    by_cases hx : i = 4
    · rw [if_pos (by omega), if_neg (by omega)]; omega
    · rw [if_neg (by omega), if_pos (by omega)]; omega
  · by_cases hx : i = 4
    · rw [if_neg (by omega)]; omega
    · rw [if_pos (by omega)]
      have := (h8 (by omega)).1
      omega
set_option maxRecDepth 100000 in
set_option maxHeartbeats 4000000 in
theorem hutchlaw06_alive.calls (w : World) : Calls Try.prog 51 #[] w fun e w' => e = .returned (.bool true) ∧ Below w.heap.size w w' := by
  go_enter Try.func51, Try.ntmps51
  go_wp2_with (go_at_call 45; refine (lookup_New.calls (home := tabHome) (fun x => (tabHome_is 3 x (by decide) (by decide)).2)).mono ?_; rintro e w1 ⟨g, cs, t, rfl, h1, h2, h3, h4, h5, h6, h7, h8⟩; have HL := Aside0.mk (show Tab.Live 111 107 tabHome w w1 g cs t from ⟨h1, h2, h7, h8⟩); have HA := Aside0.mk (show AlT t 0 from ⟨fun k v => ⟨fun h => absurd h (h3 k v), fun h => by omega⟩, h5, h6, ⟨by omega, by rw [if_pos (by decide)]; omega⟩, fun _ => (by have := h5; unfold Tab.Tb.len at this; omega)⟩); clear h1 h2 h3 h4 h5 h6 h7 h8)
  go_loopg [2] 6 (fun kq v2 w' => ∃ (i : Nat) (cs1 : Array Value) (t1 : Tab.Tb), v2 = .int .i64 ((i : Int) + 1) ∧ i ≤ 5 ∧ i + kq = 6 ∧ Aside0 (Tab.Live 111 107 tabHome w w' g cs1 t1) ∧ Aside0 (AlT t1 i))
  case atStart => exact ⟨0, cs, t, rfl, by omega, by omega, HL, HA⟩
  case round =>
    obtain ⟨i, cs1, t1, rfl, hi, hk, HL1, HA1⟩ := hrel
    obtain ⟨k1, rfl⟩ : ∃ k1, gk = k1 + 1 := ⟨gk - 1, by omega⟩
    by_cases hlt : i ≤ 4
    · have HLT := Aside0.mk hlt
      go_wp2_with (go_at_call 46; refine (lookup_Table_Put.calls ((i : Int) + 1) ((i : Int) + 1) HL1.out.tab HL1.out.inv HA1.out.mv.1 (by have := HA1.out.mv; have h1 := HLT.out; rw [if_pos h1] at this; omega) (Tab.bits_lt HL1.out.inv.fit (n := 8) (by rw [HA1.out.nl, if_pos HLT.out]; exact Nat.le_refl _) (by decide))).mono ?_; rintro e w2 ⟨b, cs2, t2, rfl, q1, q2, q3⟩; obtain ⟨rfl, q4⟩ := HA1.out.put HLT.out q2; have HL2 := Aside0.mk (HL1.out.step q1 q2.inv q3); have HA2 := Aside0.mk q4; clear q1 q2 q3 q4)
      go_roundg k1
      case measure => omega
      case rel => exact ⟨i + 1, cs2, t2, by go_num, by have := HLT.out; omega, by omega, HL2, HA2⟩
    · obtain rfl : i = 5 := by omega
      have hf := lookup_Table_Find.calls 3 HL1.out.tab HL1.out.inv
      have hl : ∀ nd, Calls Try.prog 47 #[.pointer (some ⟨g, 0, none⟩)] (wr.drewN nd) fun e w' => e = .returned (.int .i64 5) ∧ ∃ nd2, w' = (wr.drewN nd).drewN nd2 := fun nd => by
        have := lookup_Table_Len.calls (HL1.out.tab.drewN nd) HL1.out.inv (Nat.le_trans HL1.out.inv.fit.small (by decide))
        rw [HA1.out.len] at this
        exact this
      have hs : ∀ nd, Calls Try.prog 61 #[.pointer (some ⟨g, 0, none⟩)] (wr.drewN nd) fun e w' => e = .returned (.int .i64 16) ∧ w' = wr.drewN nd := fun nd => by
        have := lookup_Table_Slots.calls (HL1.out.tab.drewN nd)
        rw [HA1.out.nl, if_neg (by decide)] at this
        exact this
      have hm : ∀ nd, Calls Try.prog 50 #[.pointer (some ⟨g, 0, none⟩)] (wr.drewN nd) fun e w' => e = .returned (.int .u64 t1.moves) ∧ w' = wr.drewN nd := fun nd => lookup_Table_Moves.calls (HL1.out.tab.drewN nd)
      have hmv := HA1.out.mv
      rw [if_neg (by decide)] at hmv
      obtain ⟨m, hm0⟩ : ∃ m, m = t1.moves := ⟨_, rfl⟩
      rw [← hm0] at hmv hm
      obtain ⟨m0, m4⟩ := hmv
      have b1 : decide (m ≤ 4) = true := decide_eq_true m4
      have HF := Aside0.mk hf
      have HLn := Aside0.mk hl
      have HS := Aside0.mk hs
      have HM := Aside0.mk hm
      have HH := Aside0.mk (show t1.has 3 3 from (HA1.out.has 3 3).2 (by omega))
      clear hf hl hs hm hm0
      go_wp2_with (first
        | (go_at_call 49; (with_reducible refine HF.out.mono ?_); rintro e w2 ⟨n, b, rfl, f1, f2, nd, rfl⟩; obtain rfl : b = true := (by cases b with | true => rfl | false => exact absurd HH.out ((f2 rfl).2 3)); obtain rfl : n = 3 := (by have := (HA1.out.has _ _).1 (f1 rfl); omega); clear f1 f2)
        | (go_at_call 47; (with_reducible refine (HLn.out _).mono ?_); rintro e w2 ⟨rfl, nd, rfl⟩)
        | (go_at_call 61; (with_reducible refine (HS.out _).mono ?_); rintro e w2 ⟨rfl, rfl⟩)
        | (go_at_call 50; (with_reducible refine (HM.out _).mono ?_); rintro e w2 ⟨rfl, rfl⟩))
      go_ret
      exact ⟨rfl, (HL1.out.drewN _).below⟩


/-! ### lookup_Table_Drop: function 48 -/
-- by hand
/-- What stands behind a Drop. -/
def DropPost (g : Nat) (t : Tab.Tb) (key : Int) (w : World) (e : Ending) (w' : World) : Prop := ∃ (b : Bool) (cs' : Array Value) (t' : Tab.Tb), e = .returned (.bool b) ∧ Tab.TbAt 111 107 w' g cs' t' ∧ Tab.DropEnd tabHome t t' key b ∧ Mut (t.foot g) w (t'.foot g) w'
set_option maxRecDepth 100000 in
set_option maxHeartbeats 4000000 in
theorem lookup_Table_Drop.now {g : Nat} {cs : Array Value} {t : Tab.Tb} {w : World} (key : Int) (hT : Tab.TbAt 111 107 w g cs t) (hI : Tab.TInv tabHome 0 t) (hv0 : 0 ≤ t.moves) (hv1 : t.moves + 4 < 18446744073709551616)
    {i : Nat} (hf : Calls Try.prog 85 #[.pointer (some ⟨g, 0, none⟩), .int .u64 key] w fun e w' => e = .returned (.tuple #[.int .i64 (i : Int), .bool true]) ∧ ∃ nd, w' = w.drewN nd)
    (hi : i < t.now.sl.length) (ht : (Tab.at_ t.now.sl i).t = true) (hk : (Tab.at_ t.now.sl i).k = key) :
    Calls Try.prog 48 #[.pointer (some ⟨g, 0, none⟩), .int .u64 key] w (DropPost g t key w) := by
  obtain ⟨S, c1, c2⟩ := hI.dropNow (sk := 0) hi ht hk
  have HT := Aside0.mk hT
  have HI := Aside0.mk hI
  have HV0 := Aside0.mk hv0
  have HV1 := Aside0.mk hv1
  have HP := Aside0.mk c2
  have HF := Aside0.mk hf
  have HNW := Aside0.mk (show ∃ v, t.has key v from ⟨_, .inl (hk ▸ Tab.Has.mk hi ht)⟩)
  have hcp : 0 < Tab.cnt t.now.sl := List.countP_pos_iff.2 ⟨t.now.sl[i], List.getElem_mem hi, by rw [← Tab.at_eq hi]; exact ht⟩
  have hsm := hI.fit.small
  have hcl := Tab.cnt_le t.now.sl
  have HM := Aside0.mk (show 1 ≤ t.now.many ∧ t.now.many ≤ 1099511627776 by rw [hI.many]; omega)
  have HC := Aside0.mk c1
  have HI_ := Aside0.mk hi
  clear hT hI hv0 hv1 ht hk hf hi hcp hsm hcl c1 c2
  go_enter_defers Try.func48, Try.ntmps48
  go_wp2_with (first
    | (go_at_call 85; (with_reducible refine HF.out.mono ?_); rintro e w' ⟨rfl, ⟨nd, rfl⟩⟩)
    | (go_at_call 88; refine (lookup_rows_clear.calls (HT.out.drewN _).now HI.out.fit HI_.out HC.out HM.out.1 HM.out.2).mono ?_; rintro e w' ⟨rfl, cs3, hr3, hcs3, hmu3⟩; obtain ⟨hT6, hM6⟩ := (HT.out.drewN _).now_ hr3 rfl hcs3 hmu3; have HT6 := Aside0.mk hT6; have HM6 := Aside0.mk hM6; clear hr3 hcs3 hmu3 hT6 hM6))
  refine leaves_one (f := 84) (args := #[.pointer (some ⟨g, 0, none⟩), .int .i64 4]) (by simp [go_sem]) (lookup_Table_move.callsD (most := 4) HT6.out HP.out.inv (by decide) (by rw [HP.out.moves]; exact HV0.out) (by rw [HP.out.moves]; exact HV1.out) (Nat.le_trans HP.out.inv.fit.small (by decide))) ?_
  rintro e w' ⟨rfl, cs', t', h1, h2, h3⟩
  exact ⟨_, rfl, _, results_tmp rfl _ _ _, true, cs', t', rfl, h1, HP.out.moved h2 ⟨fun h => absurd h (by simp), fun h => HNW.out.elim (fun v hv => absurd hv (h v))⟩, ((Mut.refl _ w).drewN _).trans (HM6.out.trans h3)⟩
set_option maxRecDepth 100000 in
set_option maxHeartbeats 4000000 in
theorem lookup_Table_Drop.old {g : Nat} {cs : Array Value} {t : Tab.Tb} {w : World} (key : Int) (hT : Tab.TbAt 111 107 w g cs t) (hI : Tab.TInv tabHome 0 t) (hv0 : 0 ≤ t.moves) (hv1 : t.moves + 4 < 18446744073709551616)
    {j i : Nat} (hf : Calls Try.prog 85 #[.pointer (some ⟨g, 0, none⟩), .int .u64 key] w fun e w' => e = .returned (.tuple #[.int .i64 (j : Int), .bool false]) ∧ ∃ nd, w' = w.drewN nd)
    (hf2 : ∀ nd, Calls Try.prog 85 #[.pointer (some ⟨g, 3, none⟩), .int .u64 key] (w.drewN nd) fun e w' => e = .returned (.tuple #[.int .i64 (i : Int), .bool true]) ∧ ∃ nd, w' = w.drewN nd)
    (hi : i < t.old.sl.length) (ht : (Tab.at_ t.old.sl i).t = true) (hk : (Tab.at_ t.old.sl i).k = key) :
    Calls Try.prog 48 #[.pointer (some ⟨g, 0, none⟩), .int .u64 key] w (DropPost g t key w) := by
  have ho := hI.isOld hi
  obtain ⟨S, c1, c2⟩ := hI.dropOld ho hi ht hk
  have HT := Aside0.mk hT
  have HO := Aside0.mk ho
  have HV0 := Aside0.mk hv0
  have HV1 := Aside0.mk hv1
  have HP := Aside0.mk c2
  have HF := Aside0.mk hf
  have HF2 := Aside0.mk hf2
  have HNW := Aside0.mk (show ∃ v, t.has key v from ⟨_, .inr (hk ▸ Tab.Has.mk hi ht)⟩)
  have hcp : 0 < Tab.cnt t.old.sl := List.countP_pos_iff.2 ⟨t.old.sl[i], List.getElem_mem hi, by rw [← Tab.at_eq hi]; exact ht⟩
  have hsm := ho.fit.small
  have hcl := Tab.cnt_le t.old.sl
  have HM := Aside0.mk (show 1 ≤ t.old.many ∧ t.old.many ≤ 1099511627776 by rw [ho.many]; omega)
  have HC := Aside0.mk c1
  have HI_ := Aside0.mk hi
  clear hT hI hv0 hv1 ht hk hf hf2 hi hcp hsm hcl c1 c2 ho
  go_enter_defers Try.func48, Try.ntmps48
  go_wp2_with (first
    | (go_at_call 85; (with_reducible refine HF.out.mono ?_); rintro e w' ⟨rfl, ⟨nd, rfl⟩⟩)
    | (go_at_call 85; (with_reducible refine (HF2.out _).mono ?_); rintro e w' ⟨rfl, ⟨nd, rfl⟩⟩)
    | (go_at_call 88; refine (lookup_rows_clear.calls (HT.out.drewN _).old HO.out.fit HI_.out HC.out HM.out.1 HM.out.2).mono ?_; rintro e w' ⟨rfl, cs3, hr3, hcs3, hmu3⟩; obtain ⟨hT6, hM6⟩ := (HT.out.drewN _).old_ hr3 rfl hcs3 hmu3; have HT6 := Aside0.mk hT6; have HM6 := Aside0.mk hM6; clear hr3 hcs3 hmu3 hT6 hM6))
  refine leaves_one (f := 84) (args := #[.pointer (some ⟨g, 0, none⟩), .int .i64 4]) (by simp [go_sem]) (lookup_Table_move.callsD (most := 4) HT6.out HP.out.inv (by decide) (by rw [HP.out.moves]; exact HV0.out) (by rw [HP.out.moves]; exact HV1.out) (Nat.le_trans HP.out.inv.fit.small (by decide))) ?_
  rintro e w' ⟨rfl, cs', t', h1, h2, h3⟩
  exact ⟨_, rfl, _, results_tmp rfl _ _ _, true, cs', t', rfl, h1, HP.out.moved h2 ⟨fun h => absurd h (by simp), fun h => HNW.out.elim (fun v hv => absurd hv (h v))⟩, ((Mut.refl _ w).drewN _).trans (HM6.out.trans h3)⟩
set_option maxRecDepth 100000 in
set_option maxHeartbeats 4000000 in
theorem lookup_Table_Drop.nokey {g : Nat} {cs : Array Value} {t : Tab.Tb} {w : World} (key : Int) (hT : Tab.TbAt 111 107 w g cs t) (hI : Tab.TInv tabHome 0 t) (hv0 : 0 ≤ t.moves) (hv1 : t.moves + 4 < 18446744073709551616)
    {j i : Nat} (hf : Calls Try.prog 85 #[.pointer (some ⟨g, 0, none⟩), .int .u64 key] w fun e w' => e = .returned (.tuple #[.int .i64 (j : Int), .bool false]) ∧ ∃ nd, w' = w.drewN nd)
    (hf2 : ∀ nd, Calls Try.prog 85 #[.pointer (some ⟨g, 3, none⟩), .int .u64 key] (w.drewN nd) fun e w' => e = .returned (.tuple #[.int .i64 (i : Int), .bool false]) ∧ ∃ nd, w' = w.drewN nd)
    (hno : ∀ v, ¬ t.has key v) :
    Calls Try.prog 48 #[.pointer (some ⟨g, 0, none⟩), .int .u64 key] w (DropPost g t key w) := by
  have HT := Aside0.mk hT
  have HV0 := Aside0.mk hv0
  have HV1 := Aside0.mk hv1
  have HP := Aside0.mk (hI.dropNone hno)
  have HF := Aside0.mk hf
  have HF2 := Aside0.mk hf2
  have HNO := Aside0.mk hno
  clear hT hI hv0 hv1 hf hf2 hno
  go_enter_defers Try.func48, Try.ntmps48
  go_wp2_with (first
    | (go_at_call 85; (with_reducible refine HF.out.mono ?_); rintro e w' ⟨rfl, ⟨nd, rfl⟩⟩)
    | (go_at_call 85; (with_reducible refine (HF2.out _).mono ?_); rintro e w' ⟨rfl, ⟨nd, rfl⟩⟩))
  refine leaves_one (f := 84) (args := #[.pointer (some ⟨g, 0, none⟩), .int .i64 4]) (by simp [go_sem]) (lookup_Table_move.callsD (most := 4) (HT.out.drewN _) HP.out.inv (by decide) HV0.out HV1.out (Nat.le_trans HP.out.inv.fit.small (by decide))) ?_
  rintro e w' ⟨rfl, cs', t', h1, h2, h3⟩
  exact ⟨_, rfl, _, results_tmp rfl _ _ _, false, cs', t', rfl, h1, HP.out.moved h2 ⟨fun _ => HNO.out, fun _ => rfl⟩, ((Mut.refl _ w).drewN _).trans h3⟩
/-- A Drop, of any key. -/
theorem lookup_Table_Drop.calls {g : Nat} {cs : Array Value} {t : Tab.Tb} {w : World} (key : Int) (hT : Tab.TbAt 111 107 w g cs t) (hI : Tab.TInv tabHome 0 t) (hv0 : 0 ≤ t.moves) (hv1 : t.moves + 4 < 18446744073709551616) :
    Calls Try.prog 48 #[.pointer (some ⟨g, 0, none⟩), .int .u64 key] w (DropPost g t key w) := by
  obtain ⟨i0, b0, p1, p2, p3⟩ := lookup_rows_find.any hT.now (.inr ⟨hI.fit, hI.inv⟩) key
  have p30 : Calls Try.prog 85 #[.pointer (some ⟨g, 0, none⟩), .int .u64 key] w fun e w' => e = .returned (.tuple #[.int .i64 (i0 : Int), .bool b0]) ∧ ∃ nd, w' = w.drewN nd := p3 0
  obtain ⟨i1, b1, q1, q2, q3⟩ := lookup_rows_find.any hT.old (tinv_any hI) key
  cases b0 with
  | true =>
    obtain ⟨h1, h2, h3⟩ := p1 rfl
    exact lookup_Table_Drop.now key hT hI hv0 hv1 p30 h1 h2 h3
  | false =>
    cases b1 with
    | true =>
      obtain ⟨h1, h2, h3⟩ := q1 rfl
      exact lookup_Table_Drop.old key hT hI hv0 hv1 p30 q3 h1 h2 h3
    | false => exact lookup_Table_Drop.nokey key hT hI hv0 hv1 p30 q3 (fun v h => h.elim (Tab.none_free (p2 rfl) v) (Tab.none_free (q2 rfl) v))
set_option maxRecDepth 100000 in
set_option maxHeartbeats 4000000 in
theorem lookup_Table_Drop.nil (key : Int) (w : World) : Calls Try.prog 48 #[.pointer none, .int .u64 key] w fun e w' => e = .returned (.bool false) ∧ w' = w := by
  go_enter_defers Try.func48, Try.ntmps48
  go_wp2
  exact ⟨_, results_tmp rfl _ _ _, rfl, rfl⟩

end Go.Proofs.Ytdjbpdahdakfjaa.PLook
