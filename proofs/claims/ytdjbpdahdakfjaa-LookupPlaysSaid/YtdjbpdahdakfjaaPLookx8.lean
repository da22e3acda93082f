-- Written by a program of this session (a turned copy of the kit's printer, texts of this session's own for functions that it does not take).
import Derived.Test.YtdjbpdahdakfjaaPLookx0
import Derived.Test.YtdjbpdahdakfjaaPLookx1
import Derived.Test.YtdjbpdahdakfjaaPLookx2
import Derived.Test.YtdjbpdahdakfjaaPLookx4
import Derived.Test.YtdjbpdahdakfjaaPLookx7
namespace Go.Proofs.Ytdjbpdahdakfjaa.PLook
open Go.RowKit Go.Proofs.YtdjbpdahdakfjaaH Go.Proofs.YtdjbpdahdakfjaaW.PrintWords Go.Proofs.YtdjbpdahdakfjaaW.PrintLast Go.Proofs.YtdjbpdahdakfjaaW.PrintMore
attribute [local go_sem] max2_int min2_int max_two min_two max_three min_three max_four min_four   -- for this text's walks alone
set_option linter.unusedVariables false
set_option linter.unusedSimpArgs false


/-! ### lookup_Table_Keys: function 59 -/
-- by hand
set_option maxRecDepth 100000 in
set_option maxHeartbeats 4000000 in
theorem lookup_Table_Keys.nil (w : World) : Calls Try.prog 59 #[.pointer none] w fun e w' => e = .returned (.slice none 0 0) ∧ w' = w := by
  go_enter Try.func59, Try.ntmps59
  go_wp2
  go_ret
  exact ⟨rfl, rfl⟩
/-- One of a table's two rows. -/
def RowFar (t : Tab.Tb) (r : Tab.Rw) : Prop := r = t.now ∨ r = t.old
theorem RowFar.arr {t : Tab.Tb} {r : Tab.Rw} {w : World} {g : Nat} {cs : Array Value} {e T : TypeId} (h : RowFar t r) (hT : Tab.TbAt e T w g cs t) {j : Nat} (hj : j < r.sl.length) : ∃ A, r.adr = some A ∧ Arr Tab.enc w A e r.sl := by
  rcases h with rfl | rfl
  · cases ha : t.now.adr with
    | none => rw [hT.now.non ha] at hj; exact absurd hj (by simp)
    | some A => exact ⟨A, rfl, (hT.now.arr A ha).1⟩
  · cases ha : t.old.adr with
    | none => rw [hT.old.non ha] at hj; exact absurd hj (by simp)
    | some A => exact ⟨A, rfl, (hT.old.arr A ha).1⟩
/-- What stands behind Keys. -/
def KeysPost (t : Tab.Tb) (w : World) (e : Ending) (w' : World) : Prop := ∃ (v : Value) (l : List Int), e = .returned v ∧ l.Perm (Tab.keysOf t.now.sl ++ Tab.keysOf t.old.sl) ∧ l.Pairwise (· ≤ ·) ∧ (Kd.int .u64).R 60 w' w.heap.size (fun _ => True) v l ∧ Below w.heap.size w w'
set_option maxRecDepth 100000 in
set_option maxHeartbeats 8000000 in
theorem lookup_Table_Keys.calls {g sk : Nat} {cs : Array Value} {t : Tab.Tb} {w : World} {home : Nat → Int → Nat} (hT : Tab.TbAt 111 107 w g cs t) (hI : Tab.TInv home sk t) (hk : t.now.sl.length ≤ 16384) :
    Calls Try.prog 59 #[.pointer (some ⟨g, 0, none⟩)] w (KeysPost t w) := by
  have HT := Aside0.mk hT
  have HI := Aside0.mk hI
  obtain ⟨A, hA⟩ := Option.ne_none_iff_exists'.1 hI.fit.adr
  have hv : t.now.val = .slice (some ⟨A, 0, none⟩) t.now.sl.length t.now.sl.length := by unfold Tab.Rw.val; rw [hA]; rfl
  have hq0 : w.cell? ⟨g, 0, none⟩ = some (.int .i64 (t.now.bits : Int)) := (blk_cell hT.now.blk 0).trans hT.now.c0
  have hq1 : w.cell? ⟨g, 1, none⟩ = some t.now.val := (blk_cell hT.now.blk 1).trans hT.now.c1
  have hq2 : w.cell? ⟨g, 2, none⟩ = some (.int .i64 t.now.many) := (blk_cell hT.now.blk 2).trans hT.now.c2
  have hq3 : w.cell? ⟨g, 3, none⟩ = some (.int .i64 (t.old.bits : Int)) := (blk_cell hT.old.blk 3).trans hT.old.c0
  have hq4 : w.cell? ⟨g, 4, none⟩ = some t.old.val := (blk_cell hT.old.blk 4).trans hT.old.c1
  have hq5 : w.cell? ⟨g, 5, none⟩ = some (.int .i64 t.old.many) := (blk_cell hT.old.blk 5).trans hT.old.c2
  generalize t.now.many = m1 at hq2
  generalize t.old.many = m2 at hq5
  obtain ⟨v1, hv1⟩ : ∃ v, v = t.now.val := ⟨_, rfl⟩
  obtain ⟨v2, hv2⟩ : ∃ v, v = t.old.val := ⟨_, rfl⟩
  rw [← hv1] at hq1
  rw [← hv2] at hq4
  have HV1 := Aside0.mk hv1
  have HV2 := Aside0.mk hv2
  have hg := World.block_lt_of_cell? w _ hq0
  simp only at hg
  clear hT hI hA hv hv1 hv2
  go_enter Try.func59, Try.ntmps59
  go_wp2
  have hS : w.cell? ⟨g, 0, none⟩ = some (.int .i64 (t.now.bits : Int)) ∧ w.cell? ⟨g, 1, none⟩ = some v1 ∧ w.cell? ⟨g, 2, none⟩ = some (.int .i64 m1) ∧ w.cell? ⟨g, 3, none⟩ = some (.int .i64 (t.old.bits : Int)) ∧ w.cell? ⟨g, 4, none⟩ = some v2 ∧ w.cell? ⟨g, 5, none⟩ = some (.int .i64 m2) := ⟨hq0, hq1, hq2, hq3, hq4, hq5⟩
  go_region_held3 (fun w' => w'.cell? ⟨g, 0, none⟩ = some (.int .i64 (t.now.bits : Int)) ∧ w'.cell? ⟨g, 1, none⟩ = some v1 ∧ w'.cell? ⟨g, 2, none⟩ = some (.int .i64 m1) ∧ w'.cell? ⟨g, 3, none⟩ = some (.int .i64 (t.old.bits : Int)) ∧ w'.cell? ⟨g, 4, none⟩ = some v2 ∧ w'.cell? ⟨g, 5, none⟩ = some (.int .i64 m2))
    (first | exact hS | exact ⟨cell_alloc _ hS.1, cell_alloc _ hS.2.1, cell_alloc _ hS.2.2.1, cell_alloc _ hS.2.2.2.1, cell_alloc _ hS.2.2.2.2.1, cell_alloc _ hS.2.2.2.2.2⟩) (fail)
  obtain ⟨a1, n1, HA1, HN1, HVV1⟩ : ∃ a1 n1, Aside0 (a1 = t.now.adr.map fun A => (⟨A, 0, none⟩ : Addr)) ∧ Aside0 (n1 = t.now.sl.length) ∧ v1 = .slice a1 n1 n1 := ⟨_, _, ⟨rfl⟩, ⟨rfl⟩, HV1.out⟩
  obtain ⟨a2, n2, HA2, HN2, HVV2⟩ : ∃ a2 n2, Aside0 (a2 = t.old.adr.map fun A => (⟨A, 0, none⟩ : Addr)) ∧ Aside0 (n2 = t.old.sl.length) ∧ v2 = .slice a2 n2 n2 := ⟨_, _, ⟨rfl⟩, ⟨rfl⟩, HV2.out⟩
  subst HVV1 HVV2
  have hbl : Below w.heap.size w (w.alloc (.cells #[.int .i64 (t.now.bits : Int), .slice a1 n1 n1, .int .i64 m1, .int .i64 (t.old.bits : Int), .slice a2 n2 n2, .int .i64 m2] 104)).drew := below_drew1 ((Below.refl _ _).alloc (Nat.le_refl _) _)
  have hbx : (w.alloc (.cells #[.int .i64 (t.now.bits : Int), .slice a1 n1 n1, .int .i64 m1, .int .i64 (t.old.bits : Int), .slice a2 n2 n2, .int .i64 m2] 104)).drew.heap[w.heap.size]? = some (.cells #[.int .i64 (t.now.bits : Int), .slice a1 n1 n1, .int .i64 m1, .int .i64 (t.old.bits : Int), .slice a2 n2 n2, .int .i64 m2] 104 (0, 0)) := blk_new w _
  generalize (w.alloc (.cells #[.int .i64 (t.now.bits : Int), .slice a1 n1 n1, .int .i64 m1, .int .i64 (t.old.bits : Int), .slice a2 n2 n2, .int .i64 m2] 104)).drew = W1 at hbl hbx ⊢
  generalize (t.now.bits : Int) = b1 at hbx
  generalize (t.old.bits : Int) = b2 at hbx
  have HBL := Aside0.mk hbl
  have HBX := Aside0.mk hbx
  have hmany : t.old.sl.length ≤ 16384 := by
    rcases HI.out.old with ⟨h1, _⟩ | ho
    · rw [h1]; simp [Tab.none_]
    · have := ho.len; omega
  have HNM := Aside0.mk (show n1 ≤ 16384 ∧ n2 ≤ 16384 from ⟨by rw [HN1.out]; exact hk, by rw [HN2.out]; exact hmany⟩)
  clear hbl hbx hS hq0 hq1 hq2 hq3 hq4 hq5 hg hk hmany HV1 HV2
  go_wp2
  go_loopg [3, 20] 2 (fun kq v3 v20 w' => ∃ (i : Nat) (acc : List Int), v20 = .int .i64 (i : Int) ∧ i + kq = 2 ∧ Aside0 (acc.length ≤ i * 16384) ∧ Aside0 (acc = if i = 0 then [] else if i = 1 then Tab.keysOf t.now.sl else Tab.keysOf t.now.sl ++ Tab.keysOf t.old.sl) ∧ Aside0 ((Kd.int .u64).R 60 w' w.heap.size (fun k => k ≠ w.heap.size) v3 acc) ∧ Aside0 (Below w.heap.size w w') ∧ Aside0 (w'.heap[w.heap.size]? = some (.cells #[.int .i64 b1, .slice a1 n1 n1, .int .i64 m1, .int .i64 b2, .slice a2 n2 n2, .int .i64 m2] 104 (0, 0))))
  case atStart => exact ⟨0, [], rfl, rfl, ⟨by simp⟩, ⟨rfl⟩, ⟨Kd.R_nil _ _ _ _ _⟩, HBL, HBX⟩
  case round =>
    obtain ⟨i, acc, rfl, hi, HLN, HAC, HR, HB, HBX1⟩ := hrel
    by_cases hlt : i < 2
    · obtain ⟨k1, rfl⟩ : ∃ k1, gk = k1 + 1 := ⟨gk - 1, by omega⟩
      obtain ⟨r, br, ar, nr, mr, HRR, HAR, HNR, hN1, c0, c1, c2⟩ : ∃ (r : Tab.Rw) (br : Int) (ar : Option Addr) (nr : Nat) (mr : Int), Aside0 (r = if i = 0 then t.now else t.old) ∧ Aside0 (ar = r.adr.map fun A => (⟨A, 0, none⟩ : Addr)) ∧ Aside0 (nr = r.sl.length) ∧ nr ≤ 16384 ∧ wr.cell? ⟨w.heap.size, i * 3, none⟩ = some (.int .i64 br) ∧ wr.cell? ⟨w.heap.size, i * 3 + 1, none⟩ = some (.slice ar nr nr) ∧ wr.cell? ⟨w.heap.size, i * 3 + 2, none⟩ = some (.int .i64 mr) := by
        rcases (show i = 0 ∨ i = 1 by omega) with rfl | rfl
        · exact ⟨t.now, b1, a1, n1, m1, ⟨rfl⟩, HA1, HN1, HNM.out.1, (blk_cell HBX1.out 0).trans rfl, (blk_cell HBX1.out 1).trans rfl, (blk_cell HBX1.out 2).trans rfl⟩
        · exact ⟨t.old, b2, a2, n2, m2, ⟨rfl⟩, HA2, HN2, HNM.out.2, (blk_cell HBX1.out 3).trans rfl, (blk_cell HBX1.out 4).trans rfl, (blk_cell HBX1.out 5).trans rfl⟩
      have hBl := World.block_lt_of_cell? wr _ c0
      simp only at hBl
      have i0 : (0 : Int) ≤ (i : Int) := by omega
      have i2 : (i : Int) < 2 := by omega
      have nr1 : (nr : Int) ≤ 16384 := by omega
      go_wp2
      generalize hW : wr.alloc (.cells #[.int .i64 br, .slice ar nr nr, .int .i64 mr] 104) = W2
      have HB2 := Aside0.mk (show Below w.heap.size w W2 by rw [← hW]; exact HB.out.alloc HB.out.size _)
      have HR2 := Aside0.mk (show (Kd.int .u64).R 60 W2 w.heap.size (fun k => k ≠ w.heap.size) u3 acc by rw [← hW]; exact Kd.R_alloc HR.out _)
      have HBX2 := Aside0.mk (show W2.heap[w.heap.size]? = some (.cells #[.int .i64 b1, .slice a1 n1 n1, .int .i64 m1, .int .i64 b2, .slice a2 n2 n2, .int .i64 m2] 104 (0, 0)) by rw [← hW]; exact (Below.heap_alloc _ _ _ hBl).trans HBX1.out)
      have HBLT := Aside0.mk (show w.heap.size < W2.heap.size by rw [← hW]; simp; omega)
      clear hW c0 c1 c2 hBl
      go_loopg [3, 27] nr (fun kj v3 v27 w' => ∃ (j : Nat) (ac2 : List Int), v27 = .int .i64 (j : Int) ∧ j + kj = nr ∧ Aside0 (ac2.length ≤ i * 16384 + j) ∧ Aside0 (ac2 = acc ++ Tab.keysOf (r.sl.take j)) ∧ Aside0 ((Kd.int .u64).R 60 w' w.heap.size (fun k => k ≠ w.heap.size) v3 ac2) ∧ Aside0 (Below w.heap.size w w') ∧ Aside0 (w'.heap[w.heap.size]? = some (.cells #[.int .i64 b1, .slice a1 n1 n1, .int .i64 m1, .int .i64 b2, .slice a2 n2 n2, .int .i64 m2] 104 (0, 0))))
      case atStart => exact ⟨0, acc, rfl, by omega, ⟨by have := HLN.out; omega⟩, ⟨by simp [Tab.keysOf]⟩, HR2, HB2, HBX2⟩
      case round =>
        obtain ⟨j, ac2, rfl, hkj, HLN2, HAC2, HR3, HB3, HBX3⟩ := hrel
        have j0 : (0 : Int) ≤ (j : Int) := by omega
        by_cases hjn : j < nr
        · obtain ⟨k2, rfl⟩ : ∃ k2, gk = k2 + 1 := ⟨gk - 1, by omega⟩
          have hjr : j < r.sl.length := by rw [← HNR.out]; exact hjn
          have hraf : RowFar t r := by
            rw [HRR.out]
            by_cases h : i = 0
            · rw [if_pos h]; exact .inl rfl
            · rw [if_neg h]; exact .inr rfl
          obtain ⟨A', hA', hArr⟩ := hraf.arr (HT.out.far (w' := wr) (fun k hk => HB3.out.block k (HT.out.lt k hk))) hjr
          obtain rfl : ar = some ⟨A', 0, none⟩ := by rw [HAR.out, hA']; rfl
          obtain ⟨c0, c1, c2⟩ := Tab.arr_cell hArr hjr
          have HKT := Aside0.mk (Tab.keysOf_take hjr)
          obtain ⟨x, hx⟩ : ∃ x, x = Tab.at_ r.sl j := ⟨_, rfl⟩
          rw [← hx] at c0 c1 c2 HKT
          obtain ⟨xk, xn, xt⟩ := x
          simp only at c0 c1 c2 HKT
          have lA := World.block_lt_of_cell? wr _ c0
          simp only at lA
          have j1 : (j : Int) < (nr : Int) := by omega
          clear hx hjr hraf hArr hA'
          cases xt with
          | false =>
            go_wp2
            go_roundg k2
            case measure => omega
            case rel => exact ⟨j + 1, ac2, by go_num, by omega, ⟨by have := HLN2.out; omega⟩, ⟨by rw [HKT.out, HAC2.out]; simp⟩, ⟨Kd.R_alloc HR3.out _⟩, ⟨HB3.out.alloc HB3.out.size _⟩, ⟨(Below.heap_alloc _ _ _ (blk_lt HBX3.out)).trans HBX3.out⟩⟩
          | true =>
            go_upto_if 32 with (fail)
            generalize hW : wr.alloc (.cells #[.int .u64 xk, .int .i32 xn, .bool true] 111) = W4
            have hb0 : W4.cell? ⟨wr.heap.size, 0, none⟩ = some (.int .u64 xk) := by rw [← hW]; exact (blk_cell (blk_new wr _) 0).trans rfl
            have HB4 := Aside0.mk (show Below w.heap.size w W4 by rw [← hW]; exact HB3.out.alloc HB3.out.size _)
            have HR4 := Aside0.mk (show (Kd.int .u64).R 60 W4 w.heap.size (fun k => k ≠ w.heap.size) u3 ac2 by rw [← hW]; exact Kd.R_alloc HR3.out _)
            have HBX4 := Aside0.mk (show W4.heap[w.heap.size]? = some (.cells #[.int .i64 b1, .slice a1 n1 n1, .int .i64 m1, .int .i64 b2, .slice a2 n2 n2, .int .i64 m2] 104 (0, 0)) by rw [← hW]; exact (Below.heap_alloc _ _ _ (blk_lt HBX3.out)).trans HBX3.out)
            have lb := World.block_lt_of_cell? W4 _ hb0
            simp only at lb
            clear hW c0 c1 c2 lA
            go_wp2_with ((with_reducible refine gate_builtin (b := .append) (xs := #[.tmp 33, .tmp 36]) rfl ?_); at_builtin; go_loud (refine Kd.R_append (Kd.int .u64) (w0 := w) w.heap.size rfl (.tmp 33) (.tmp 36) 22 60 (.int .u64 0) 8 rfl Try.underlying22 info60 rfl (by decide) (by omega) u3 ac2 xk [.int .u64 xk] (fun k => k ≠ w.heap.size) (fun _ => False) rfl rfl ?aP (fun _ hk => hk.elim) ?aF ?aO ?aB ?aS ?aL ?_; (case aP => exact rfl); (case aO => exact HR4.out); (case aB => exact HB4.out); (case aS => exact HB4.out.size); (case aF => intro k hk; have h2 := blk_lt HBX4.out; omega); (case aL => have h2 := HLN2.out; have h3 := HNM.out; omega); intro v5 w5 ho hb hg hat; have HO5 := Aside0.mk ho; have HB5 := Aside0.mk hb; have HG5 := Aside0.mk hg; clear ho hb hg hat))
            have hne : some w.heap.size ≠ u3.ownBlock := fun h => HR3.out.1 _ h.symm rfl
            go_roundg k2
            case measure => omega
            case rel => exact ⟨j + 1, ac2 ++ [xk], by go_num, by omega, ⟨by have := HLN2.out; simp; omega⟩, ⟨by rw [HKT.out, HAC2.out]; simp⟩, HO5, HB5, ⟨(HG5.out.block _ (blk_lt HBX4.out) hne).trans HBX4.out⟩⟩
        · obtain rfl : j = nr := by omega
          go_wp2
          go_roundg k1
          case measure => omega
          case rel =>
            have hfull : ac2 = acc ++ Tab.keysOf r.sl := by rw [HAC2.out, HNR.out, List.take_length]
            refine ⟨i + 1, ac2, by go_num, by omega, ⟨by have := HLN2.out; omega⟩, ⟨?_⟩, HR3, HB3, HBX3⟩
            rw [hfull, HAC.out, HRR.out]
            rcases (show i = 0 ∨ i = 1 by omega) with rfl | rfl
            · simp
            · simp
    · obtain rfl : i = 2 := by omega
      have hacc : acc = Tab.keysOf t.now.sl ++ Tab.keysOf t.old.sl := by rw [HAC.out]; simp
      have HACC := Aside0.mk hacc
      rcases Srt.dat_of_own (Kd.own_of_R HR.out) with ⟨hv, hl⟩ | ⟨gg, cap, cur, hv, hgb, hD, hn, hm, hs⟩
      · subst hv
        have HNIL := Aside0.mk hl
        clear hacc hl
        go_wp2_with (go_at_call 95; (with_reducible refine (slices_Sort_uint64_uint64.nil _).mono ?_); rintro e w2 ⟨rfl, rfl⟩)
        go_ret
        exact ⟨.slice none 0 0, [], rfl, by rw [← HACC.out, HNIL.out], List.Pairwise.nil, Kd.R_nil _ _ _ _ _, HB.out⟩
      · subst hv
        have hlen : acc.toArray.size = acc.length := by simp
        have hlt6 : acc.length < 65536 := by have := HLN.out; omega
        have hst := slices_Sort_uint64_uint64.calls (cap := cap) hD (by rw [hlen]; exact hlt6)
        rw [hlen] at hst
        have HST := Aside0.mk hst
        have HN := Aside0.mk hn
        have HM := Aside0.mk hm
        have HS := Aside0.mk hs
        have HG := Aside0.mk hgb
        clear hst hn hm hs hgb hD hacc hlen hlt6
        go_wp2_with (go_at_call 95; (with_reducible refine HST.out.mono ?_); rintro e w2 ⟨rfl, R, g1, g2, g3⟩; have G1 := Aside0.mk g1; have G2 := Aside0.mk g2; have G3 := Aside0.mk g3; clear g1 g2 g3)
        go_ret
        obtain ⟨p1, p2⟩ := G1.out
        have hRl : R.size = acc.length := by have := p1.length_eq; simpa using this
        refine ⟨_, R.toList, rfl, ?_, p2, ?_, ?_⟩
        · rw [← HACC.out]; simpa using p1
        · have := Srt.own_of_dat (base := w.heap.size) G2.out HG.out (by rw [hRl]; exact HN.out) HM.out HS.out
          rw [hRl] at this
          exact Kd.R_of_own this (fun _ _ => trivial)
        · exact HB.out.trans (G3.out.below (fun k hk => by rw [hk]; exact HG.out) HB.out.size)

/-! ### hutchref06_Keys: function 60 -/
def hutchref06_Keys.l0 : Nat → List Int → Int → List (S124) → Int → Option (List Int)
  | 0, _, _, _, _ => none
  | k + 1, x3, x4, x151000, x151001 => if x4 < (x151000.length : Int) then (if 0 ≤ x4 then (if x3.length < 17592186044416 then (hutchref06_Keys.l0 k (x3 ++ [(rd_T124 x151000 x4).f0]) (wrap64 (x4 + 1)) x151000 x151001) else (none)) else (none)) else (some x3)
def hutchref06_Keys.f (k : Nat) (l0_0 : List (S124)) (a0_1 : Int) : Option (List Int) := hutchref06_Keys.l0 k ([] : List Int) 0 l0_0 a0_1
theorem hutchref06_Keys.mono_l : ∀ k, (∀ y0 y1 y2 y3, LeO (hutchref06_Keys.l0 k y0 y1 y2 y3) (hutchref06_Keys.l0 (k + 1) y0 y1 y2 y3))
  | 0 => fun _ _ _ _ r h => by simp [hutchref06_Keys.l0] at h
  | k + 1 => by
    have ih0 := hutchref06_Keys.mono_l k
    · intro y0 y1 y2 y3
      unfold hutchref06_Keys.l0
      repeat' first
      | (with_reducible exact ih0 _ _ _ _)
      | (with_reducible exact LeO.refl _)
      | (with_reducible exact LeO.none _)
      | (with_reducible refine LeO.ite ?_ ?_)
      | (with_reducible refine LeO.bind ?_ (fun _ => ?_))
      | exact ih0 _ _ _ _
      | exact LeO.none _
      | refine LeO.ite ?_ ?_
      | refine LeO.bind ?_ (fun _ => ?_)
theorem hutchref06_Keys.mono : ∀ a0 a1 k, LeO (hutchref06_Keys.f k a0 a1) (hutchref06_Keys.f (k + 1) a0 a1) := by
  intro a0 a1 k
  have ih0 := hutchref06_Keys.mono_l k
  unfold hutchref06_Keys.f
  repeat' first
      | (with_reducible exact ih0 _ _ _ _)
      | (with_reducible exact LeO.refl _)
      | (with_reducible exact LeO.none _)
      | (with_reducible refine LeO.ite ?_ ?_)
      | (with_reducible refine LeO.bind ?_ (fun _ => ?_))
      | exact ih0 _ _ _ _
      | exact LeO.none _
      | refine LeO.ite ?_ ?_
      | refine LeO.bind ?_ (fun _ => ?_)
set_option maxHeartbeats 8000000 in
set_option maxRecDepth 100000 in
theorem hutchref06_Keys.calls (k : Nat) (A0_0 : Option Addr) (c0_0 : Nat) (l0_0 : List (S124)) (a0_1 : Int) (r : List Int) (w : World) (hr0_0 : Kd.C k124 w A0_0 l0_0.length l0_0) (hc0_0 : l0_0.length ≤ c0_0) (h : hutchref06_Keys.f k l0_0 a0_1 = some r) :
    Calls Try.prog 60 #[.agg #[.slice A0_0 l0_0.length c0_0, .int .i64 a0_1]] w fun e w' => ∃ v0_ : Value, e = .returned (v0_) ∧ Kd.R (Kd.int .u64) 60 w' w.heap.size (fun _ => True) v0_ r ∧ Below w.heap.size w w' := by
  have hu80 := Try.underlying80
  have HR0_0 := Aside0.mk hr0_0
  have HC0_0 := Aside0.mk hc0_0
  clear hr0_0 hc0_0
  have HB := Aside0.mk (Below.refl w.heap.size w)
  have H : (hutchref06_Keys.l0 k ([] : List Int) 0 l0_0 a0_1) = some r := h
  clear h
  have H' := Aside0.mk H
  clear H
  go_enter Try.func60, Try.ntmps60
  go_wp2_with (first | ((with_reducible refine gate_dst (N := 1) rfl ?_); refine box_event ?hg (N := 1) ?hd (cs := #[.slice A0_0 l0_0.length c0_0, .int .i64 a0_1]) (t := 80) ?hr ?_; (case hd => rfl); (case hg => rfl); (case hr => first | (go_simp; done) | (go_simp; rfl)); intro gb150 hg w2 hbox hb; have n0_ := Aside0.mk (below_step (by repeat (first | (with_reducible first | exact HB.out | apply below_alloc | apply pw_below_drewN | apply below_drew1) | exact HB.out)) hb); have n1_ := Aside0.mk (hbox); have n2_ := Aside0.mk ((by rw [hg]; exact (below_size (by repeat (first | (with_reducible first | exact HB.out | apply below_alloc | apply pw_below_drewN | apply below_drew1) | exact HB.out))) : w.heap.size ≤ gb150)); have n3_ := Aside0.mk ((by rw [hg]; exact (below_size (by repeat (first | (with_reducible first | exact HB.out | apply below_alloc | apply pw_below_drewN | apply below_drew1) | exact HB.out))) : w.heap.size ≤ gb150)); clear HB; have HB := n0_; have BK150 := n1_; have GW150 := n2_; have GE150 := n3_; clear n0_ n1_ n2_ n3_; clear hb hbox hg))
  go_loopg [3, 4] k (fun kq v3 v4 w' => ∃ (x3_1 : List Int) (x4_1 : Int), v4 = .int .i64 x4_1 ∧ Aside0 (hutchref06_Keys.l0 kq x3_1 x4_1 l0_0 a0_1 = some r) ∧ Aside0 (kq ≤ k) ∧ Aside0 (Kd.R (Kd.int .u64) 60 w' w.heap.size (fun _ => True) v3 x3_1) ∧ Aside0 (w'.heap[gb150]? = some (.cells #[(.slice A0_0 l0_0.length c0_0), .int .i64 a0_1] 80 (0, 0))) ∧ Aside0 (Below w.heap.size w w'))
  case atStart => exact ⟨(([] : List Int)), (0), (by first | rfl | (simp; done) | (simp [*]; done)), H', ⟨Nat.le_refl _⟩, ⟨by first | exact Kd.R_nil _ _ _ _ _ | exact Kd.N_nil _ _ _ _ _ | exact Kd.V_nil _ _ _ _ _ | exact Kd.Q_nil _ _ _ _ _ | exact Kd.S_nil _ _ _ _ _⟩, ⟨by (with_reducible repeat (first | refine blk_drewN ?_ _ | refine blk_drew ?_ | refine blk_alloc ?_ _)); exact BK150.out⟩, ⟨by repeat (first | (with_reducible first | exact HB.out | apply below_alloc | apply pw_below_drewN | apply below_drew1 | refine below_set ?_ GE150.out) | exact HB.out)⟩⟩
  case round =>
    clear H'
    try clear p2
    obtain ⟨x3_1, x4_1, rfl, HA, HK1, HO_3, BK150, HB⟩ := hrel
    cases gk with
    | zero => exact absurd HA.out (by simp [hutchref06_Keys.l0])
    | succ k1 =>
      have H := HA.out
      clear HA
      simp only [hutchref06_Keys.l0] at H
      by_cases c3 : x4_1 < (l0_0.length : Int)
      · rw [if_pos c3] at H
        have c3b0 : decide (x4_1 < (l0_0.length : Int)) = true := decide_eq_true c3
        clear c3
        by_cases c4 : 0 ≤ x4_1
        · rw [if_pos c4] at H
          have c4b0 : decide (0 ≤ x4_1) = true := decide_eq_true c4
          clear c4
          by_cases c5 : x3_1.length < 17592186044416
          · rw [if_pos c5] at H
            have LMc5 := Aside0.mk c5
            clear c5
            obtain ⟨y152, hy152⟩ : ∃ y_ : List Int, y_ = (x3_1 ++ [(rd_T124 l0_0 x4_1).f0]) := ⟨_, rfl⟩
            replace H : (hutchref06_Keys.l0 k1 y152 (wrap64 (x4_1 + 1)) l0_0 a0_1) = some r := by first | (rw [hy152]; with_reducible exact H) | (have H2_ := (Option.bind_some _ _).symm.trans H; rw [hy152]; with_reducible exact H2_) | (have H2_ := (Option.bind_some _ _).symm.trans H; with_reducible exact H2_) | with_reducible exact H | (rw [hy152]; exact H) | exact H
            have Ny152 := Aside0.mk hy152
            clear hy152
            have H' := Aside0.mk H
            clear H
            have hcz6_0 : wr.cell? ⟨gb150, 0, none⟩ = some (.slice A0_0 l0_0.length c0_0) := (blk_cell BK150.out 0).trans rfl
            have hcz6_1 : wr.cell? ⟨gb150, 1, none⟩ = some (.int .i64 a0_1) := (blk_cell BK150.out 1).trans rfl
            have hfz6_0 := blk_frozen BK150.out 0
            have hfz6_1 := blk_frozen BK150.out 1
            have p151 : 0 ≤ (x4_1 : Int) := of_decide_eq_true (by first | (with_reducible assumption) | assumption)
            have q151 : x4_1 < (l0_0.length : Int) := of_decide_eq_true (by first | (with_reducible assumption) | assumption)
            obtain ⟨ad151, e151, hx151_0, hx151_1⟩ := at_T124 HR0_0.out x4_1 p151 q151
            cases e151
            replace hx151_0 := (HB.out.cell (World.block_lt_of_cell? w _ hx151_0)).trans hx151_0
            replace hx151_1 := (HB.out.cell (World.block_lt_of_cell? w _ hx151_1)).trans hx151_1
            replace p151 := eq_true p151
            replace q151 := eq_true q151
            go_wp2_with (first | ((with_reducible refine gate_builtin (b := .append) (xs := #[.tmp 12, .tmp 19]) rfl ?_); at_builtin; refine Kd.R_append (Kd.int .u64) (w0 := w) w.heap.size rfl (.tmp 12) (.tmp 19) 22 60 (.int .u64 0) 8 rfl Try.underlying22 info60 rfl (by decide) (by omega) u3 x3_1 ((rd_T124 l0_0 x4_1).f0) [.int .u64 ((rd_T124 l0_0 x4_1).f0)] (fun _ => True) (fun _ => False) rfl rfl ?aP (fun _ hk => hk.elim) ?aF ?aO ?aB ?aS ?aL ?_; (case aP => exact rfl); (case aB => exact (by repeat (first | (with_reducible first | exact HB.out | apply below_alloc | apply pw_below_drewN | apply below_drew1 | refine below_set ?_ GE150.out) | exact HB.out))); (case aF => exact (fun _ _ => trivial)); (case aO => exact (by (with_reducible repeat (first | apply Kd.R_alloc | apply Kd.R_drewN | apply Kd.R_drew)); exact HO_3.out)); (case aS => exact (below_size (by repeat (first | (with_reducible first | exact HB.out | apply below_alloc | apply pw_below_drewN | apply below_drew1 | refine below_set ?_ GE150.out) | exact HB.out)))); (case aL => have := LMc5.out; omega); intro v153 w7 ho hb hg hat; rw [← Ny152.out] at ho; have n0_ := Aside0.mk (blk_grown (g := gb150) (o := .cells #[.slice (some ad151) l0_0.length c0_0, .int .i64 a0_1] 80 (0, 0)) (by (with_reducible repeat (first | refine blk_drewN ?_ _ | refine blk_drew ?_ | refine blk_alloc ?_ _)); exact BK150.out) hg (Kd.R_ne HO_3.out BK150.out (by decide))); have n1_ := Aside0.mk (hb); have n2_ := Aside0.mk (ho); clear BK150; clear HB; clear HO_3; have BK150 := n0_; have HB := n1_; have HO154 := n2_; clear n0_ n1_ n2_; clear ho hb hg hat))
            go_roundg k1
            case measure => have := HK1.out; omega
            case rel => exact ⟨(y152), (wrap64 (x4_1 + 1)), (by first | rfl | (simp; done) | (simp [*]; done)), H', ⟨by have := HK1.out; omega⟩, ⟨by (with_reducible repeat (first | apply Kd.R_alloc | apply Kd.R_drewN | apply Kd.R_drew)); exact HO154.out⟩, ⟨by (with_reducible repeat (first | refine blk_drewN ?_ _ | refine blk_drew ?_ | refine blk_alloc ?_ _)); exact BK150.out⟩, ⟨by repeat (first | (with_reducible first | exact HB.out | apply below_alloc | apply pw_below_drewN | apply below_drew1 | refine below_set ?_ GE150.out) | exact HB.out)⟩⟩
          · rw [if_neg c5] at H
            exact absurd H (by simp)
        · rw [if_neg c4] at H
          exact absurd H (by simp)
      · rw [if_neg c3] at H
        have c3b0 : decide (x4_1 < (l0_0.length : Int)) = false := decide_eq_false c3
        clear c3
        obtain rfl := Option.some.inj H
        have hcz8_0 : wr.cell? ⟨gb150, 0, none⟩ = some (.slice A0_0 l0_0.length c0_0) := (blk_cell BK150.out 0).trans rfl
        have hcz8_1 : wr.cell? ⟨gb150, 1, none⟩ = some (.int .i64 a0_1) := (blk_cell BK150.out 1).trans rfl
        have hfz8_0 := blk_frozen BK150.out 0
        have hfz8_1 := blk_frozen BK150.out 1
        go_wp2
        go_ret
        exact ⟨_, by first | rfl | (simp [errW_none, errW_some] <;> rfl) | (simp [*, errW_none, errW_some] <;> rfl), by (with_reducible repeat (first | apply Kd.R_alloc | apply Kd.R_drewN | apply Kd.R_drew)); exact HO_3.out, by repeat (first | (with_reducible first | exact HB.out | apply below_alloc | apply pw_below_drewN | apply below_drew1 | refine below_set ?_ GE150.out) | exact HB.out)⟩


/-! ### hutchlaw06_LookupPlays: function 13 -/
-- by hand
theorem keys_ev (l : List S124) (s : Int) (hl : l.length ≤ 1000000) : ∀ (d i k : Nat) (acc : List Int), i + d = l.length → d < k → acc.length ≤ i → hutchref06_Keys.l0 k acc (i : Int) l s = some (acc ++ (l.drop i).map (·.f0)) := by
  intro d
  induction d with
  | zero =>
    intro i k acc h hk ha
    obtain ⟨k, rfl⟩ : ∃ m, k = m + 1 := ⟨k - 1, by omega⟩
    simp only [hutchref06_Keys.l0]
    rw [if_neg (by omega), List.drop_of_length_le (by omega)]
    simp
  | succ d ih =>
    intro i k acc h hk ha
    obtain ⟨k, rfl⟩ : ∃ m, k = m + 1 := ⟨k - 1, by omega⟩
    simp only [hutchref06_Keys.l0]
    have hi : i < l.length := by omega
    rw [if_pos (by omega), if_pos (by omega), if_pos (by omega), rd124 hi, show wrap64 ((i : Int) + 1) = ((i + 1 : Nat) : Int) by unfold wrap64; omega, ih (i + 1) k _ (by omega) (by omega) (by simp; omega), List.drop_eq_getElem_cons hi]
    generalize l[i] = x
    generalize l.drop (i + 1) = r
    simp
theorem keys_f (l : List S124) (s : Int) (hl : l.length ≤ 1000000) : hutchref06_Keys.f (l.length + 1) l s = some (l.map (·.f0)) := by
  have := keys_ev l s hl l.length 0 (l.length + 1) [] (by omega) (by omega) (by simp)
  simpa [hutchref06_Keys.f] using this
theorem same_ev (l : List Int) (hl : l.length ≤ 1000000) : ∀ (d i k : Nat), i + d = l.length → d < k → hutchref06_Same.l0 k l l (i : Int) = some true := by
  intro d
  induction d with
  | zero =>
    intro i k h hk
    obtain ⟨k, rfl⟩ : ∃ m, k = m + 1 := ⟨k - 1, by omega⟩
    simp only [hutchref06_Same.l0]
    rw [if_neg (by omega)]
  | succ d ih =>
    intro i k h hk
    obtain ⟨k, rfl⟩ : ∃ m, k = m + 1 := ⟨k - 1, by omega⟩
    simp only [hutchref06_Same.l0]
    rw [if_pos (by omega), if_pos (by omega), if_pos trivial, show wrap64 ((i : Int) + 1) = ((i + 1 : Nat) : Int) by unfold wrap64; omega]
    first | exact ih (i + 1) k (by omega) (by omega) | (rw [if_pos (by omega)]; exact ih (i + 1) k (by omega) (by omega))
theorem same_f (l : List Int) (hl : l.length ≤ 1000000) : hutchref06_Same.f (l.length + 1) l l = some true := by
  unfold hutchref06_Same.f
  rw [if_pos rfl]
  exact same_ev l hl l.length 0 (l.length + 1) (by omega) (by omega)
theorem sorted_ext : ∀ {a b : List Int}, a.Pairwise (· < ·) → b.Pairwise (· < ·) → (∀ x, x ∈ a ↔ x ∈ b) → a = b
  | [], [], _, _, _ => rfl
  | [], y :: b, _, _, h => absurd ((h y).2 (by simp)) (by simp)
  | x :: a, [], _, _, h => absurd ((h x).1 (by simp)) (by simp)
  | x :: a, y :: b, ha, hb, h => by
    obtain ⟨a1, a2⟩ := List.pairwise_cons.1 ha
    obtain ⟨b1, b2⟩ := List.pairwise_cons.1 hb
    have hxy : x = y := by
      rcases List.mem_cons.1 ((h x).1 (by simp)) with h1 | h1
      · exact h1
      · rcases List.mem_cons.1 ((h y).2 (by simp)) with h2 | h2
        · exact h2.symm
        · have := a1 y h2; have := b1 x h1; omega
    subst hxy
    rw [sorted_ext a2 b2 (fun z => ?_)]
    constructor
    · intro hz
      rcases List.mem_cons.1 ((h z).1 (List.mem_cons_of_mem _ hz)) with h1 | h1
      · have := a1 z hz; omega
      · exact h1
    · intro hz
      rcases List.mem_cons.1 ((h z).2 (List.mem_cons_of_mem _ hz)) with h1 | h1
      · have := b1 z hz; omega
      · exact h1
theorem keys_same {t : Tab.Tb} {l : List S124} {s : Int} {ks : List Int} (hR : RelT t l s) (hI : Tab.TInv tabHome 0 t) (hp : ks.Perm (Tab.keysOf t.now.sl ++ Tab.keysOf t.old.sl)) (hs : ks.Pairwise (· ≤ ·)) : ks = l.map (·.f0) := by
  have hn : ks.Nodup := hp.nodup_iff.2 (Tab.nodup_keys hI)
  have hlt : ks.Pairwise (· < ·) := (hs.and hn).imp (fun ⟨h1, h2⟩ => by omega)
  refine sorted_ext hlt (List.pairwise_map.2 hR.srt) (fun x => ?_)
  rw [hp.mem_iff, List.mem_append, Tab.mem_keysOf, Tab.mem_keysOf, List.mem_map]
  constructor
  · rintro (⟨v, hv⟩ | ⟨v, hv⟩)
    · exact ⟨⟨x, v⟩, (hR.has x v).1 (.inl hv), rfl⟩
    · exact ⟨⟨x, v⟩, (hR.has x v).1 (.inr hv), rfl⟩
  · rintro ⟨⟨k, v⟩, hm, rfl⟩
    rcases (hR.has k v).2 hm with h | h
    · exact .inl ⟨v, h⟩
    · exact .inr ⟨v, h⟩
def straight (Q : Exit → Act → World → Prop) : Exit → Act → World → Prop
  | .normal, a, w => Q .normal a w
  | _, _, _ => False
theorem wp_straight {P : Program} {c : Code} {Q : Exit → Act → World → Prop} {a : Act} {w : World} (h : c.wp P (straight Q) a w) : c.wp P Q a w :=
  Code.wp_mono (fun e a w h => by cases e <;> first | exact h | exact h.elim) h
/-- What the arguments are known to be. -/
def hutchlaw06_LookupPlays.f (l0 : List S117) (a1 : Int) : Option (Bool) := some true
set_option maxRecDepth 100000 in
set_option maxHeartbeats 8000000 in
theorem hutchlaw06_LookupPlays.calls (A0 : Option Addr) (c0 : Nat) (l0 : List S117) (a1 : Int) (r : Bool) (w : World) (hr0 : Kd.C k117 w A0 l0.length l0) (hc0 : l0.length ≤ c0) (h : hutchlaw06_LookupPlays.f l0 a1 = some r) :
    Calls Try.prog 13 #[.slice A0 l0.length c0, .int .u64 a1] w fun e w' => e = .returned (.bool r) ∧ Below w.heap.size w w' := by
  obtain rfl : r = true := (Option.some.inj h).symm
  clear h
  have HA := Aside0.mk hr0
  clear hr0
  by_cases h150 : 150 < l0.length
  · have b1 : decide ((150 : Int) < (l0.length : Int)) = true := decide_eq_true (by omega)
    have b2 : decide (150 < l0.length) = true := decide_eq_true h150
    clear hc0
    go_enter Try.func13, Try.ntmps13
    go_wp2_with (go_at_call 51; (with_reducible refine (hutchlaw06_alive.calls _).mono ?_); rintro e w2 ⟨rfl, hb⟩)
    go_ret
    exact ⟨rfl, hb⟩
  · have b1 : decide ((150 : Int) < (l0.length : Int)) = false := decide_eq_false (by omega)
    have b2 : decide (150 < l0.length) = false := decide_eq_false h150
    have HN := Aside0.mk (show l0.length ≤ 150 by omega)
    have HC0 := Aside0.mk hc0
    clear hc0 h150
    go_enter Try.func13, Try.ntmps13
    go_wp2_with (first
      | (go_at_call 45; refine (lookup_New.calls (home := tabHome) (fun x => (tabHome_is 3 x (by decide) (by decide)).2)).mono ?_; rintro e w1 ⟨g, cs, t, rfl, h1, h2, h3, h4, h5, h6, h7, h8⟩; have HL := Aside0.mk (show Tab.Live 111 107 tabHome w w1 g cs t from ⟨h1, h2, h7, h8⟩); have HP := Aside0.mk (show PR t [] 8 0 from ⟨⟨fun k v => ⟨fun h => absurd h (h3 k v), fun h => absurd h (by simp)⟩, List.Pairwise.nil, by rw [h5]; rfl, by rw [h6]; rfl⟩, by simp, by omega, by omega⟩); clear h1 h2 h3 h4 h5 h6 h7 h8)
      | (go_at_call 58; refine (hutchref06_New.calls [] 8 _ rfl).mono ?_; rintro e w2 ⟨v0, rfl, r0, hb⟩; obtain ⟨A1, c1, rfl, _, _⟩ := Kd.R_reads r0; have HL2 := Aside0.mk (HL.out.other hb); have HR2 := Aside0.mk (Kd.R_lower (Kd.R_mono (Kd.R_bound r0) (ok' := fun k => ¬ t.foot g k) (fun k hk hf => by have := HL.out.tab.lt k hf; omega)) HL.out.below.size); clear r0 hb)
      | (go_at_call 57; refine (hutchlaw06_play.calls (acts := l0) HL2.out HR2.out HP.out HA.out HC0.out HN.out).mono ?_; rintro e w3 ⟨cs3, t3, A3, c3, l3, s3, i3, rfl, hi3, hp3, hl3, hr3⟩; have HI3 := Aside0.mk hi3; have HP3 := Aside0.mk hp3; have HL3 := Aside0.mk hl3; have HR3 := Aside0.mk hr3; clear hi3 hp3 hl3 hr3))
    have HBW := Aside0.mk (HL3.out.below.alloc HL3.out.below.size (.cells #[.slice A3 l3.length c3, .int .i64 s3] 80))
    have hal := below_alloc (Below.refl w3.heap.size w3) (.cells #[.slice A3 l3.length c3, .int .i64 s3] 80)
    have HT := Aside0.mk (HL3.out.other hal).tab
    have HI := Aside0.mk HL3.out.inv
    have HCL := Aside0.mk (Kd.C_below (Kd.R_reads' HR3.out).2.2 hal)
    have HLC := Aside0.mk (Kd.R_reads' HR3.out).2.1
    have hS0 : (w3.alloc (.cells #[.slice A3 l3.length c3, .int .i64 s3] 80)).cell? ⟨w3.heap.size, 0, none⟩ = some (.slice A3 l3.length c3) ∧ (w3.alloc (.cells #[.slice A3 l3.length c3, .int .i64 s3] 80)).cell? ⟨w3.heap.size, 1, none⟩ = some (.int .i64 s3) := ⟨(blk_cell (blk_new _ _) 0).trans rfl, (blk_cell (blk_new _ _) 1).trans rfl⟩
    have HL1000 := Aside0.mk (show l3.length ≤ 1000000 by have := HP3.out.len; have := HI3.out; omega)
    obtain ⟨B6, hB6⟩ : ∃ B6, B6 = w3.heap.size := ⟨_, rfl⟩
    rw [← hB6] at hS0 ⊢
    generalize w3.alloc (.cells #[.slice A3 l3.length c3, .int .i64 s3] 80) = WA at HBW HT HCL hS0 ⊢
    clear hal hB6
    refine wp_straight ?_
    have HSAME := Aside0.mk (same_f (l3.map (·.f0)) (by rw [List.length_map]; exact HL1000.out))
    go_region_held3 (fun w' => w'.cell? ⟨B6, 0, none⟩ = some (.slice A3 l3.length c3) ∧ w'.cell? ⟨B6, 1, none⟩ = some (.int .i64 s3))
      (first | exact hS0 | exact ⟨pw_cell_below HB4.out hS0.1, pw_cell_below HB4.out hS0.2⟩ | exact ⟨pw_cell_below HB5.out (pw_cell_below HB4.out hS0.1), pw_cell_below HB5.out (pw_cell_below HB4.out hS0.2)⟩ | exact ⟨pw_cell_below HB7.out (pw_cell_below HB5.out (pw_cell_below HB4.out hS0.1)), pw_cell_below HB7.out (pw_cell_below HB5.out (pw_cell_below HB4.out hS0.2))⟩)
      (first
      | (refine goes_ Try.func59 (by kernel_rfl) rfl #[.pointer (some ⟨g, 0, none⟩)] (by rfl) rfl rfl ?_ ?_; (focus ((try simp only [List.map_toArray, List.map_cons, List.map_nil]); first | done | rfl | (simp [Act.eval, Act.put]; done))); go_loud (refine (lookup_Table_Keys.calls (cs := cs3) (home := tabHome) (sk := 0) (t := t3) ?hT HI.out (Nat.le_trans HP3.out.nl (by decide))).mono ?_; (case hT => repeat (first | exact HT.out | (with_reducible refine Tab.TbAt.drewN ?_ _) | (with_reducible refine Tab.TbAt.drew ?_))); rintro e w4 ⟨vk, ks, rfl, hp, hs, hr, hb⟩; obtain ⟨Ak, ck, rfl⟩ := Kd.R_slice hr; obtain rfl := keys_same HP3.out.rel HI.out hp hs; have HRK := Aside0.mk hr; have HB4 := Aside0.mk hb; have HCL4 := Aside0.mk (show Kd.C k124 w4 A3 l3.length l3 from Kd.C_below (by repeat (first | exact HCL.out | (with_reducible refine Kd.C_drewN ?_ _) | (with_reducible refine Kd.C_drew ?_))) hb); clear hp hs hr hb; refine ⟨_, rfl, ?_⟩))
      | (refine goes_ Try.func60 (by kernel_rfl) rfl #[.agg #[.slice A3 l3.length c3, .int .i64 s3]] (by rfl) rfl rfl ?_ ?_; (focus ((try simp only [List.map_toArray, List.map_cons, List.map_nil]); first | done | rfl | (simp [Act.eval, Act.put]; done))); go_loud (refine (hutchref06_Keys.calls (l3.length + 1) A3 c3 l3 s3 (l3.map (·.f0)) _ ?hC HLC.out (keys_f l3 s3 HL1000.out)).mono ?_; (case hC => repeat (first | exact HCL4.out | (with_reducible refine Kd.C_drewN ?_ _) | (with_reducible refine Kd.C_drew ?_))); rintro e w5 ⟨vq, rfl, hr, hb⟩; obtain ⟨Aq, cq, rfl⟩ := Kd.R_slice hr; have HRQ := Aside0.mk hr; have HB5 := Aside0.mk hb; have HCK5 := Aside0.mk (show Kd.C (Kd.int .u64) w5 Ak (l3.map (·.f0)).length (l3.map (·.f0)) from Kd.C_below (by repeat (first | exact (Kd.R_reads' HRK.out).2.2 | (with_reducible refine Kd.C_drewN ?_ _) | (with_reducible refine Kd.C_drew ?_))) hb); have HCQ5 := Aside0.mk (Kd.R_reads' hr).2.2; clear hr hb; refine ⟨_, rfl, ?_⟩))
      | (refine goes_ Try.func25 (by kernel_rfl) rfl #[.slice Ak (l3.map (·.f0)).length ck, .slice Aq (l3.map (·.f0)).length cq] (by rfl) rfl rfl ?_ ?_; (focus ((try simp only [List.map_toArray, List.map_cons, List.map_nil]); first | done | rfl | (simp [Act.eval, Act.put]; done))); have q3 := (fun w h1 h2 h3 h4 => hutchref06_Same.calls ((l3.map (·.f0)).length + 1) Ak ck (l3.map (·.f0)) Aq cq (l3.map (·.f0)) true w h1 h2 h3 h4 HSAME.out); have q1 := (Kd.R_reads' HRK.out).2.1; have q2 := (Kd.R_reads' HRQ.out).2.1; have q4 := q3 w5 HCK5.out q1 HCQ5.out q2; clear q1 q2 q3; with_reducible refine q4.mono ?_; clear q4; rintro e w6 ⟨rfl, ⟨nd6, rfl⟩⟩; refine ⟨_, rfl, ?_⟩)
      | (refine goes_ Try.func51 (by kernel_rfl) rfl #[] (by rfl) rfl rfl (by simp) ?_; refine (hutchlaw06_alive.calls _).mono ?_; rintro e w7 ⟨rfl, hb⟩; refine ⟨_, rfl, ?_⟩; have HB7 := Aside0.mk hb; clear hb))
    simp only [straight]
    go_wp2
    go_ret
    have b4 : Below WA.heap.size WA w4 := ⟨HB4.out.os, HB4.out.tape, HB4.out.output, HB4.out.size, HB4.out.block⟩
    have b5 : Below w4.heap.size w4 w5 := HB5.out
    have b7 : Below w5.heap.size w5 w7 := ⟨HB7.out.os, HB7.out.tape, HB7.out.output, HB7.out.size, HB7.out.block⟩
    exact ⟨rfl, ((HBW.out.trans (b4.mono HBW.out.size)).trans (b5.mono (Nat.le_trans HBW.out.size b4.size))).trans (b7.mono (Nat.le_trans (Nat.le_trans HBW.out.size b4.size) b5.size))⟩

/-- What is read of a value of this type. -/
def okS117 (x : S117) : Prop := ((Lit.int .i64 x.f0).wf = true) ∧ ((Lit.int .u64 x.f1).wf = true) ∧ ((Lit.int .i32 x.f2).wf = true)
/-- THE ONE PURE STATEMENT of hutchlaw06_LookupPlays. -/
def hutchlaw06_LookupPlays.Pure : Prop := ∀ (l0 : List (S117)) (a1 : Int), l0.length * 24 ≤ 140737488351232 → (∀ y_ ∈ l0, okS117 y_) → (Lit.int .u64 a1).wf = true → hutchlaw06_LookupPlays.f l0 a1 = some true

end Go.Proofs.Ytdjbpdahdakfjaa.PLook
