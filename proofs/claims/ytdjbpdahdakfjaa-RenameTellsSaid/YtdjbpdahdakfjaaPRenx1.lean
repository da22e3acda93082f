-- Written by a program of this session (a turned copy of the kit's printer, texts of this session's own for functions that it does not take).
import Derived.Test.YtdjbpdahdakfjaaPRenx0
namespace Go.Proofs.Ytdjbpdahdakfjaa.PRen
open Go.RowKit Go.Proofs.YtdjbpdahdakfjaaH Go.Proofs.YtdjbpdahdakfjaaW.PrintWords Go.Proofs.YtdjbpdahdakfjaaW.PrintLast Go.Proofs.YtdjbpdahdakfjaaW.PrintMore
attribute [local go_sem] max2_int min2_int max_two min_two max_three min_three max_four min_four   -- for this text's walks alone
set_option linter.unusedVariables false
set_option linter.unusedSimpArgs false


/-! ### slices_Clone_uint64_uint64: function 114 -/
-- by hand
def slices_Clone_uint64_uint64.f (l0 : List Int) : Option (List Int) := if l0.length < 17592186044416 then some l0 else none
set_option maxHeartbeats 800000 in
set_option maxRecDepth 100000 in
theorem slices_Clone_uint64_uint64.calls (A0 : Option Addr) (c0 : Nat) (l0 : List Int) (r : List Int) (w : World) (hr0 : Kd.C (Kd.int .u64) w A0 l0.length l0) (hc0 : l0.length ≤ c0) (h : slices_Clone_uint64_uint64.f l0 = some r) :
    Calls Try.prog 114 #[.slice A0 l0.length c0] w fun e w' => ∃ v0_ : Value, e = .returned (v0_) ∧ Kd.R (Kd.int .u64) 60 w' w.heap.size (fun _ => True) v0_ r ∧ Below w.heap.size w w' := by
  unfold slices_Clone_uint64_uint64.f at h
  by_cases hh : l0.length < 17592186044416
  · rw [if_pos hh] at h
    obtain rfl := Option.some.inj h
    clear h
    have HR0 := Aside0.mk hr0
    have HC0 := Aside0.mk hc0
    have LM := Aside0.mk hh
    have heq : ∀ w : World, (binOp .eql 22 (.slice A0 l0.length c0) (.slice none 0 0)).run Try.prog w = .ok (.bool A0.isNone) w := fun w => Lib.run_eql_slice_nil w 22 60 A0 l0.length c0 0 0 Try.underlying22
    cases A0 with
    | none =>
      have hl : l0 = [] := by
        have := hr0.2.2
        by_cases h0 : 0 < l0.length
        · obtain ⟨ad, e, _⟩ := this h0; cases e
        · exact List.eq_nil_of_length_eq_zero (by omega)
      subst hl
      clear hr0 hc0 hh
      simp only [Option.isNone_none, List.length_nil] at heq
      go_enter Try.func114, Try.ntmps114
      go_wp2
      go_ret
      exact ⟨_, rfl, Kd.R_nil _ _ _ _ _, Below.refl _ _⟩
    | some ad =>
      clear hr0 hc0 hh
      simp only [Option.isNone_some] at heq
      have HB := Aside0.mk (Below.refl w.heap.size w)
      go_enter Try.func114, Try.ntmps114
      go_wp2_with (first
        | ((with_reducible refine gate_dst (N := 5) rfl ?_); refine Kd.R_lit (Kd.int .u64) _ 60 ?hg (N := 5) ?hd (xs := ([] : List Int)) (inner := []) (ok := fun _ => True) (okp := fun _ => True) ?hr ?hp (fun _ hk => hk) trivial (Below.refl _ _) (Nat.le_refl _) (by simp) ?_; (case hd => rfl); (case hg => rfl); (case hr => first | (go_simp; done) | (go_simp; rfl)); (case hp => exact (Reps.none _ _)); intro v1 w5 ho6 hb hg_ hnew_; clear hg_ hnew_; have HO1 := Aside0.mk ho6; have HB1 := Aside0.mk hb; clear HB ho6 hb)
        | ((with_reducible refine gate_builtin (b := .append) (xs := #[.tmp 5, .tmp 6]) rfl ?_); at_builtin; refine Kd.R_append_rows (Kd.int .u64) (w0 := w) w.heap.size rfl (.tmp 5) (.tmp 6) 22 60 (.int .u64 0) 8 rfl Try.underlying22 info60 rfl (by decide) (by omega) v1 ([] : List Int) l0 _ _ _ (fun _ => True) (fun _ => False) rfl rfl ?aO ?aR (fun _ _ h => h) (fun _ h => h.elim) ?aF ?aB ?aS ?aL ?_; (case aR => exact Kd.C_below HR0.out HB1.out); (case aB => exact HB1.out); (case aF => exact fun _ _ => trivial); (case aO => exact HO1.out); (case aS => exact HB1.out.size); (case aL => have := LM.out; simp; omega); intro v2 w6 ho hb hg hat; have HO2 := Aside0.mk ho; have HB2 := Aside0.mk hb; clear ho hb hg hat))
      go_ret
      exact ⟨_, rfl, by simpa using HO2.out, HB2.out⟩
  · rw [if_neg hh] at h
    exact absurd h (by simp)


/-! ### trace_counts: function 116 -/
-- by hand
/-- Each key once, in the order in which they first come. -/
def unlikeOf (l : List Int) : List Int := l.foldl (fun a x => if x ∈ a then a else a ++ [x]) []
theorem unlikeOf_nil : unlikeOf [] = [] := rfl
theorem unlikeOf_snoc (l : List Int) (x : Int) : unlikeOf (l ++ [x]) = if x ∈ unlikeOf l then unlikeOf l else unlikeOf l ++ [x] := by
  unfold unlikeOf
  rw [List.foldl_append]
  rfl
theorem unlikeOf_mem (d : Nat) : ∀ (l : List Int), l.length = d → ∀ x, x ∈ unlikeOf l ↔ x ∈ l := by
  induction d with
  | zero => intro l hl x; obtain rfl := List.eq_nil_of_length_eq_zero hl; simp [unlikeOf]
  | succ d ih =>
    intro l hl x
    have hne : l ≠ [] := by intro e; rw [e] at hl; simp at hl
    have e := List.dropLast_concat_getLast hne
    generalize l.getLast hne = y at e
    have hdl : l.dropLast.length = d := by simp; omega
    rw [← e, unlikeOf_snoc]
    have h1 := ih _ hdl
    split
    · rename_i hm
      rw [h1, List.mem_append, List.mem_singleton]
      constructor
      · exact .inl
      · rintro (h | rfl)
        · exact h
        · exact (h1 x).1 hm
    · rw [List.mem_append, List.mem_append, h1]
theorem unlikeOf_len (d : Nat) : ∀ (l : List Int), l.length = d → (unlikeOf l).length ≤ l.length := by
  induction d with
  | zero => intro l hl; obtain rfl := List.eq_nil_of_length_eq_zero hl; simp [unlikeOf]
  | succ d ih =>
    intro l hl
    have hne : l ≠ [] := by intro e; rw [e] at hl; simp at hl
    have e := List.dropLast_concat_getLast hne
    generalize l.getLast hne = y at e
    have hdl : l.dropLast.length = d := by simp; omega
    have h1 := ih _ hdl
    rw [← e, unlikeOf_snoc]
    split <;> simp <;> omega
/-- How often each key is there, if it is. -/
def countIn (l : List Int) (x : Int) : Option Int := if x ∈ l then some ((l.count x : Nat) : Int) else none
theorem countIn_snoc (l : List Int) (x : Int) : (fun y => if y = x then some ((countIn l x).getD 0 + 1) else countIn l y) = countIn (l ++ [x]) := by
  funext y
  unfold countIn
  by_cases h : y = x
  · subst h
    have e1 : (if y ∈ l then some ((List.count y l : Nat) : Int) else none).getD 0 = (List.count y l : Int) := by
      split
      · rfl
      · rename_i hm; rw [List.count_eq_zero_of_not_mem hm]; rfl
    rw [if_pos rfl, e1, if_pos (by simp), List.count_append]
    simp
  · rw [if_neg h]
    have : y ∈ l ++ [x] ↔ y ∈ l := by simp [h]
    rw [List.count_append, List.count_eq_zero_of_not_mem (show y ∉ [x] by simpa using h)]
    simp [h]
theorem wf_small (x : Int) (h0 : 0 ≤ x) (h1 : x < 9223372036854775808) : (Lit.int .i64 x).wf = true := by
  have e1 : IntKind.i64.min = -9223372036854775808 := by decide
  have e2 : IntKind.i64.max = 9223372036854775807 := by decide
  simp only [Lit.wf, e1, e2, Bool.and_eq_true, decide_eq_true_eq]; omega
set_option maxHeartbeats 1600000 in
set_option maxRecDepth 100000 in
theorem trace_counts.calls (A0 : Option Addr) (c0 : Nat) (l0 : List Int) (w : World) (hr0 : Kd.C (Kd.int .u64) w A0 l0.length l0) (hc0 : l0.length ≤ c0) (hlen : l0.length ≤ 1000000) (hw : ∀ x ∈ l0, (Lit.int .u64 x).wf = true) :
    Calls Try.prog 116 #[.slice A0 l0.length c0] w fun e w' => ∃ v0_ : Value, ∃ b, e = .returned (.tuple #[v0_, .map (some b)]) ∧ Kd.R (Kd.int .u64) 60 w' w.heap.size (fun _ => True) v0_ (unlikeOf l0) ∧ OwnsU Try.prog 60 3 .u64 w' b l0.length (countIn l0) ∧ w.heap.size ≤ b ∧ Below w.heap.size w w' := by
  obtain ⟨n, hn⟩ : ∃ n, n = l0.length := ⟨_, rfl⟩
  have HN := Aside0.mk hn
  rw [← hn] at hr0 hc0 hlen ⊢
  have HW := Aside0.mk hw
  have HR0 := Aside0.mk hr0
  clear hw hr0 hn
  have hmm := @run_makeMap Try.prog
  have hz : ∀ w : World, (zeroValue 3).run Try.prog w = .ok (.int .i64 0) w := fun w => by kernel_rfl
  have HZ := Aside0.mk hz
  clear hz
  go_enter Try.func116, Try.ntmps116
  go_wp2
  have HM0 := Aside0.mk (OwnsU.made Try.prog 60 3 .u64 w)
  have HB0 := Aside0.mk (below_alloc (Below.refl w.heap.size w) (.map #[] 0))
  go_loopw [4, 11] (fun v4 v11 wr => ∃ k : Nat, v11 = .int .i64 k ∧ k ≤ n ∧ Aside0 (OwnsU Try.prog 60 3 .u64 wr w.heap.size k (countIn (l0.take k))) ∧ Aside0 (Kd.R (Kd.int .u64) 60 wr w.heap.size (fun _ => True) v4 (unlikeOf (l0.take k))) ∧ Aside0 (Below w.heap.size w wr)) (fun _ v11 _ => n - (intOf v11).toNat)
  case atStart => exact ⟨0, rfl, Nat.zero_le _, HM0, ⟨Kd.R_nil _ _ _ _ _⟩, HB0⟩
  case round =>
    clear HM0 HB0
    obtain ⟨k, rfl, hk, HM, HO, HB⟩ := hrel
    by_cases hlt : k < n
    · have p1 : (0 : Int) ≤ (k : Int) := by omega
      have q1 : (k : Int) < (n : Int) := by omega
      obtain ⟨ad, e1, hx⟩ := Kd.at_int HR0.out (k : Int) p1 q1
      cases e1
      replace hx := (HB.out.cell (World.block_lt_of_cell? w _ hx)).trans hx
      rw [Int.toNat_natCast] at hx
      obtain ⟨x, hxd⟩ : ∃ x, x = rd l0 (k : Int) := ⟨_, rfl⟩
      rw [← hxd] at hx
      have hkl : k < l0.length := by rw [← HN.out]; exact hlt
      have hxd2 : x = l0[k] := by rw [hxd]; simp [rd, List.getD_eq_getElem?_getD, List.getElem?_eq_getElem hkl]
      have hwx : (Lit.int .u64 x).wf = true := by rw [hxd2]; exact HW.out _ (List.getElem_mem _)
      have htk : l0.take (k + 1) = l0.take k ++ [x] := by rw [List.take_succ_eq_append_getElem hkl, hxd2]
      have HWX := Aside0.mk hwx
      have HTK := Aside0.mk htk
      clear hxd hxd2 hwx htk hkl
      have p2 := eq_true p1
      have q2 := eq_true q1
      have hcb : 0 ≤ (countIn (l0.take k) x).getD 0 ∧ (countIn (l0.take k) x).getD 0 ≤ k := by
        unfold countIn
        split
        · have := List.count_le_length (a := x) (l := l0.take k)
          rw [List.length_take] at this
          simp only [Option.getD_some]; omega
        · simp
      have hcm : (countIn (l0.take k) x).getD 0 = 0 ↔ x ∉ unlikeOf (l0.take k) := by
        rw [unlikeOf_mem _ _ rfl]
        unfold countIn
        split
        · rename_i hm
          have := List.count_pos_iff.2 hm
          simp only [Option.getD_some]
          constructor
          · intro h; omega
          · intro h; exact absurd hm h
        · rename_i hm
          simp [hm]
      obtain ⟨c, hc⟩ : ∃ c, c = (countIn (l0.take k) x).getD 0 := ⟨_, rfl⟩
      rw [← hc] at hcb hcm
      obtain ⟨hcb0, hcb1⟩ := hcb
      have HC := Aside0.mk hc
      have HCM := Aside0.mk hcm
      have ws : wrap64 (c + 1) = c + 1 := by unfold wrap64; omega
      have HWS := Aside0.mk ws
      clear hc hcm ws
      by_cases hc0 : c = 0
      · have b0 : (c == 0) = true := beq_iff_eq.2 hc0
        have HC0 := Aside0.mk hc0
        clear hc0
        have ul : (unlikeOf (l0.take k)).length ≤ 1000000 := by
          have := unlikeOf_len _ (l0.take k) rfl
          rw [List.length_take] at this
          omega
        have UL := Aside0.mk ul
        clear ul
        go_wp2_with (first
          | (at_lookup; refine OwnsU.look (m := countIn (l0.take k)) rfl (.tmp 15) (.tmp 16) 87 rfl Try.underlying60 Try.underlying87 Try.underlying3 (HZ.out _) (b := w.heap.size) (n := k) (by first | exact HM.out | exact HM2.out) rfl x rfl HWX.out ?_; rw [← HC.out])
          | ((with_reducible refine gate_builtin (b := .append) (xs := #[.tmp 19, .tmp 21]) rfl ?_); at_builtin; refine Kd.R_append (Kd.int .u64) (w0 := w) w.heap.size rfl (.tmp 19) (.tmp 21) 22 60 (.int .u64 0) 8 rfl Try.underlying22 info60 rfl (by decide) (by omega) u4 (unlikeOf (l0.take k)) x [.int .u64 x] (fun _ => True) (fun _ => False) rfl rfl ?aP (fun _ hk => hk.elim) ?aF ?aO ?aB ?aS ?aL ?_; (case aP => exact rfl); (case aB => exact HB.out); (case aF => exact fun _ _ => trivial); (case aO => exact HO.out); (case aS => exact HB.out.size); (case aL => have := UL.out; omega); intro v2 w2 ho hb hg hat; have HM2 := Aside0.mk (OwnsU.grown HM.out hg (OwnsU.ne_row HM.out HO.out)); have HO2 := Aside0.mk ho; have HB2 := Aside0.mk hb; clear ho hb hg hat)
          | (at_lookup; refine OwnsU.look (m := countIn (l0.take k)) rfl (.tmp 23) (.tmp 24) 87 rfl Try.underlying60 Try.underlying87 Try.underlying3 (HZ.out _) (b := w.heap.size) (n := k) (by first | exact HM.out | exact HM2.out) rfl x rfl HWX.out ?_; rw [← HC.out])
          | (at_mapUpdate; refine OwnsU.update (m := countIn (l0.take k)) rfl (.tmp 23) (.tmp 24) (.tmp 26) 87 rfl Try.underlying60 Try.underlying87 Try.underlying3 (b := w.heap.size) (n := k) (by unfold maxLen; omega) (by exact HM2.out) rfl x (c + 1) rfl rfl HWX.out (wf_small _ (by omega) (by omega)) ?_; intro w3 HM3 hgr3))
        have hc0 := HC0.out
        rw [HC.out, countIn_snoc, ← HTK.out] at HM3
        have HM3' := Aside0.mk HM3
        have HO3 : Aside0 (Kd.R (Kd.int .u64) 60 w3 w.heap.size (fun _ => True) v2 (unlikeOf (l0.take (k + 1)))) := ⟨by
          rw [HTK.out, unlikeOf_snoc, if_neg (HCM.out.1 hc0)]
          exact R_mapped HO2.out HM2.out hgr3⟩
        have HB3 := Aside0.mk (HB2.out.grown hgr3 HB2.out.size (fun j hj => by cases hj; exact Nat.le_refl _))
        clear HM3 hgr3
        go_wp2
        go_roundw
        case rel => exact ⟨k + 1, by go_num, by omega, HM3', HO3, HB3⟩
        case measure => simp [intOf]; omega
      · have b0 : (c == 0) = false := beq_eq_false_iff_ne.2 hc0
        have HC0 := Aside0.mk hc0
        clear hc0
        go_wp2_with (first
          | (at_lookup; refine OwnsU.look (m := countIn (l0.take k)) rfl (.tmp 15) (.tmp 16) 87 rfl Try.underlying60 Try.underlying87 Try.underlying3 (HZ.out _) (b := w.heap.size) (n := k) (by first | exact HM.out | exact HM2.out) rfl x rfl HWX.out ?_; rw [← HC.out])
          | (at_lookup; refine OwnsU.look (m := countIn (l0.take k)) rfl (.tmp 23) (.tmp 24) 87 rfl Try.underlying60 Try.underlying87 Try.underlying3 (HZ.out _) (b := w.heap.size) (n := k) (by first | exact HM.out | exact HM2.out) rfl x rfl HWX.out ?_; rw [← HC.out])
          | (at_mapUpdate; refine OwnsU.update (m := countIn (l0.take k)) rfl (.tmp 23) (.tmp 24) (.tmp 26) 87 rfl Try.underlying60 Try.underlying87 Try.underlying3 (b := w.heap.size) (n := k) (by unfold maxLen; omega) (by exact HM.out) rfl x (c + 1) rfl rfl HWX.out (wf_small _ (by omega) (by omega)) ?_; intro w3 HM3 hgr3))
        have hc0 := HC0.out
        rw [HC.out, countIn_snoc, ← HTK.out] at HM3
        have HM3' := Aside0.mk HM3
        have HO3 : Aside0 (Kd.R (Kd.int .u64) 60 w3 w.heap.size (fun _ => True) u4 (unlikeOf (l0.take (k + 1)))) := ⟨by
          rw [HTK.out, unlikeOf_snoc, if_pos (by have := HCM.out; exact Classical.byContradiction fun hn => hc0 (this.2 hn))]
          exact R_mapped HO.out HM.out hgr3⟩
        have HB3 := Aside0.mk (HB.out.grown hgr3 HB.out.size (fun j hj => by cases hj; exact Nat.le_refl _))
        clear HM3 hgr3
        go_wp2
        go_roundw
        case rel => exact ⟨k + 1, by go_num, by omega, HM3', HO3, HB3⟩
        case measure => simp [intOf]; omega
    · have hkn : k = n := by omega
      go_wp2
      go_ret2
      refine ⟨_, _, rfl, ?_, ?_, Nat.le_refl _, HB.out⟩
      · have := HO.out
        rw [hkn, List.take_of_length_le (by rw [← HN.out]; exact Nat.le_refl _)] at this
        exact this
      · have := HM.out
        rw [hkn, List.take_of_length_le (by rw [← HN.out]; exact Nat.le_refl _)] at this
        exact this


/-! ### trace_Often_1: function 115 -/
-- by hand
/-- The keys with how often each is there. -/
def oftenOf (l : List Int) : List (Int × Int) := (unlikeOf l).map fun k => (k, (countIn l k).getD 0)
theorem oftenOf_length (l : List Int) : (oftenOf l).length = (unlikeOf l).length := by simp [oftenOf]
attribute [local go_sem] Oper.semAt_some
set_option maxRecDepth 100000 in
set_option maxHeartbeats 2000000 in
theorem often1_in (n l Bs B : Nat) (A : Option Addr) (c : Nat) (l0 : List Int) (hn : 1 ≤ n) (hlen : l0.length ≤ 1000000) (hw : ∀ x ∈ l0, (Lit.int .u64 x).wf = true) (J Jx : List (Int × Int) → World → Prop) (W : World)
    (hJ : AbidesFrom W.heap.size J)
    (hY : ∀ pre x W1, J pre W1 → pre.length < (unlikeOf l0).length → YieldAt Fence.wide (n - 1) Try.prog l #[.int .u64 x.1, .int .i64 x.2] W1 fun e W' =>
      (e = .returned (.bool true) ∧ J (pre ++ [x]) W' ∧ KeepsBox B W1 W') ∨ (e = .returned (.bool false) ∧ Jx (pre ++ [x]) W'))
    (hBs : W.cell? ⟨Bs, 0, none⟩ = some (.slice A l0.length c)) (hr : Kd.C (Kd.int .u64) W A l0.length l0) (hc : l0.length ≤ c) (hB : B < W.heap.size) (hbox : ∀ b, boxRow W B = some b → b < W.heap.size) (h0 : J [] W) :
    CallsIn Fence.wide n Try.prog 115 #[.func (.yield l) #[] #[], .pointer (some ⟨Bs, 0, none⟩)] W fun e W' => (∃ v, e = .returned v) ∧
      ((∃ ys, ys = oftenOf l0 ∧ J ys W') ∨ (∃ pre, True ∧ Jx pre W')) := by
  have HR := Aside0.mk hr
  have HC := Aside0.mk hc
  have HW := Aside0.mk hw
  have HJ := Aside0.mk hJ
  have HY := Aside0.mk hY
  have HBOX := Aside0.mk hbox
  have HZ : Aside0 (∀ w : World, (zeroValue 3).run Try.prog w = .ok (.int .i64 0) w) := ⟨fun w => by kernel_rfl⟩
  clear hr hc hw hJ hY hbox
  refine callsIn_of_wp Try.func115 rfl trivial ?_ rfl
  simp only [Try.ntmps115, List.size_toArray, List.length_cons, List.length_nil, Nat.reduceAdd, Nat.reduceSub, Array.replicate_succ, Array.replicate_zero, List.push_toArray, List.append_toArray, List.nil_append, List.cons_append]
  obtain ⟨N, hN⟩ : ∃ N, N = (unlikeOf l0).length := ⟨_, rfl⟩
  have HN := Aside0.mk hN
  have hNl : N ≤ 1000000 := by have := unlikeOf_len _ l0 rfl; omega
  clear hN
  gi_wp2_with fail
  refine ⟨trivial, ?_⟩
  refine (callsIn_wide.2 (trace_counts.calls A c l0 W HR.out HC.out hlen HW.out)).mono ?_
  rintro e w1 ⟨v0, b, rfl, hO, hM, hbge, hB1⟩
  have HX := Aside0.mk (And.intro hO (And.intro hM (And.intro hbge hB1)))
  obtain ⟨A', c', hv0⟩ := Kd.R_slice hO
  clear hM hB1 hbge hO
  subst hv0
  gi_wp2
  obtain ⟨hO, hM, hbge, hB1⟩ := HX.out
  have ho := Kd.own_of_R hO
  rw [← HN.out] at ho ⊢
  have HO := Aside0.mk ho
  have HM := Aside0.mk hM
  have HB1 := Aside0.mk hB1
  have HBG := Aside0.mk hbge
  clear ho hM hB1 hbge hO HX
  have hJ1 : Aside0 (J ((oftenOf l0).take 0) w1) := ⟨HJ.out [] W w1 none h0 (grown_of_below HB1.out none) (fun r e => by cases e)⟩
  have hap : Aside0 (∀ i, ((.slice A' N c' : Value).ownBlock = some i ∨ i = b) → boxRow w1 B ≠ some i) := ⟨by
    intro i hi hb
    have e : boxRow w1 B = boxRow W B := by unfold boxRow; rw [HB1.out.cell (p := ⟨B, 0, none⟩) hB]
    rw [e] at hb
    have h1 := HBOX.out i hb
    rcases hi with hi | hi
    · have := own_base HO.out i hi; omega
    · have := HBG.out; omega⟩
  have hsz : Aside0 (W.heap.size ≤ w1.heap.size) := ⟨HB1.out.size⟩
  gi_loopw [14] (fun v14 wr => ∃ k : Nat, k ≤ N ∧ v14 = .int .i64 k ∧ Aside0 (J ((oftenOf l0).take k) wr) ∧ Aside0 (wr.ownsRow W.heap.size 60 1 (.slice A' N c') N (encs (Value.int .u64) (unlikeOf l0))) ∧ Aside0 (OwnsU Try.prog 60 3 .u64 wr b l0.length (countIn l0)) ∧ Aside0 (∀ i, ((.slice A' N c' : Value).ownBlock = some i ∨ i = b) → boxRow wr B ≠ some i) ∧ Aside0 (W.heap.size ≤ wr.heap.size)) (fun v14 _ => N - (intOf v14).toNat)
  case atStart => exact ⟨0, Nat.zero_le _, rfl, hJ1, HO, HM, hap, hsz⟩
  case round =>
    clear HM HO hJ1 hap hsz
    obtain ⟨k, hk, rfl, HJS, HO, HM, HAP, HSZ⟩ := hrel
    by_cases hlt : k < N
    · have p1 : (0 : Int) ≤ (k : Int) := by omega
      have q1 : (k : Int) < (N : Int) := by omega
      obtain ⟨A2, c2, e2, hrd⟩ := own_reads_of (d := (0 : Int)) HO.out
      have hA2 : A2 = A' := by injection e2 with h _ _; exact h.symm
      clear e2
      subst hA2
      obtain ⟨ad, e1, hx⟩ := ReadsOf.at_ hrd (k : Int) p1 q1
      subst e1
      have hkl : k < (unlikeOf l0).length := by rw [← HN.out]; exact hlt
      obtain ⟨x, hxd⟩ : ∃ x, x = rdOf (0 : Int) (unlikeOf l0) (k : Int) := ⟨_, rfl⟩
      rw [← hxd, Int.toNat_natCast] at hx
      have hxd2 : x = (unlikeOf l0)[k] := by rw [hxd]; simp [rdOf, List.getD_eq_getElem?_getD, List.getElem?_eq_getElem hkl]
      have hxm : x ∈ l0 := by rw [hxd2]; exact (unlikeOf_mem _ l0 rfl _).1 (List.getElem_mem _)
      have HWX := Aside0.mk (HW.out x hxm)
      have htk : (oftenOf l0).take (k + 1) = (oftenOf l0).take k ++ [(x, (countIn l0 x).getD 0)] := by
        rw [List.take_succ_eq_append_getElem (by rw [oftenOf_length]; exact hkl)]
        simp [oftenOf, hxd2]
      have HTK := Aside0.mk htk
      clear hrd hxd hxd2 hxm htk
      obtain ⟨fn, tmps, assign, body, hy, hR⟩ := HY.out _ (x, (countIn l0 x).getD 0) wr HJS.out (by rw [List.length_take, oftenOf_length, ← HN.out]; omega)
      dsimp only at hy
      obtain ⟨cn, hcn⟩ : ∃ cn, cn = (countIn l0 x).getD 0 := ⟨_, rfl⟩
      have HCN := Aside0.mk hcn
      rw [← hcn] at hy hR
      clear hcn
      have p2 := eq_true p1
      have q2 := eq_true q1
      have HR1 := Aside0.mk hR
      clear hR
      gi_wp2_with (gi_at_lookup; refine OwnsU.lookIn (m := countIn l0) rfl (.tmp 20) (.tmp 21) 87 rfl Try.underlying60 Try.underlying87 Try.underlying3 (HZ.out _) (b := b) (n := l0.length) HM.out rfl x rfl HWX.out ?_; rw [← HCN.out])
      refine HR1.out.mono ?_
      rintro e W3 (⟨rfl, hJ3, hk3⟩ | ⟨rfl, hJx3⟩)
      · have hJ4 : Aside0 (J ((oftenOf l0).take (k + 1)) W3) := ⟨by rw [HTK.out, ← HCN.out]; exact hJ3⟩
        have hO4 : Aside0 (W3.ownsRow W.heap.size 60 1 (.slice (some ad) N c') N (encs (Value.int .u64) (unlikeOf l0))) := ⟨own_move HO.out (fun i hi => by
          obtain ⟨cells, hc⟩ := own_typed HO.out i hi
          have := own_base HO.out i hi
          rw [hc]
          exact hk3.keep i _ hc (.inl rfl) (by omega) (HAP.out i (.inl hi)))⟩
        have hM4 : Aside0 (OwnsU Try.prog 60 3 .u64 W3 b l0.length (countIn l0)) := ⟨HM.out.kept (by
          obtain ⟨es, ck, hb⟩ := HM.out.isBlock
          rw [hb]
          exact hk3.keep b _ hb (.inr rfl) (by have := HBG.out; omega) (HAP.out b (.inr rfl)))⟩
        have hA4 : Aside0 (∀ i, ((.slice (some ad) N c' : Value).ownBlock = some i ∨ i = b) → boxRow W3 B ≠ some i) := ⟨fun i hi => by
          rcases hk3.row with e | ⟨b', e, hb'⟩
          · rw [e]; exact HAP.out i hi
          · rw [e]
            intro he
            injection he with he
            rcases hi with hi | hi
            · have := own_lt HO.out i hi; omega
            · have := HM.out.lt; omega⟩
        have hS4 : Aside0 (W.heap.size ≤ W3.heap.size) := ⟨Nat.le_trans HSZ.out hk3.size⟩
        clear hJ3 hk3
        gi_wp2
        go_roundw
        case rel => exact ⟨k + 1, by omega, by simp, hJ4, hO4, hM4, hA4, hS4⟩
        case measure => simp [intOf]; omega
      · gi_wp2
        refine bodyPost_ret (results_none rfl _ _ _) rfl ?_
        exact ⟨⟨_, rfl⟩, .inr ⟨_, trivial, hJx3⟩⟩
    · obtain rfl : k = N := by omega
      gi_wp2
      go_end0
      refine ⟨⟨_, rfl⟩, .inl ⟨_, rfl, ?_⟩⟩
      have := HJS.out
      rwa [List.take_of_length_le (by rw [oftenOf_length, ← HN.out]; exact Nat.le_refl _)] at this


/-! ### trace_Often: function 96 -/
-- by hand
set_option maxHeartbeats 800000 in
theorem trace_Often.calls (A0 : Option Addr) (c0 : Nat) (l0 : List Int) (w : World) (hr0 : Kd.C (Kd.int .u64) w A0 l0.length l0) (hc0 : l0.length ≤ c0) (hlen : l0.length ≤ 1000000) :
    Calls Try.prog 96 #[.slice A0 l0.length c0] w fun e w' => ∃ Bs A c, e = .returned (.func (.func 115) #[] #[.pointer (some ⟨Bs, 0, none⟩)]) ∧ w'.cell? ⟨Bs, 0, none⟩ = some (.slice A l0.length c) ∧ Kd.C (Kd.int .u64) w' A l0.length l0 ∧ l0.length ≤ c ∧ Below w.heap.size w w' := by
  have HR0 := Aside0.mk hr0
  have HC0 := Aside0.mk hc0
  have hcl : slices_Clone_uint64_uint64.f l0 = some l0 := by unfold slices_Clone_uint64_uint64.f; rw [if_pos (by omega)]
  have HCL := Aside0.mk hcl
  clear hr0 hc0 hcl
  go_enter Try.func96, Try.ntmps96
  go_wp2_with (go_at_call 114; refine (slices_Clone_uint64_uint64.calls _ _ l0 l0 _ HR0.out HC0.out HCL.out).mono ?_; rintro e w1 ⟨v, rfl, hO, hB⟩; obtain ⟨A, c, hv, hl, hr⟩ := Kd.R_reads hO; subst hv; have HL := Aside0.mk hl; have HR := Aside0.mk hr; have HB := Aside0.mk hB; clear hO hB hl hr)
  go_ret
  refine ⟨w1.heap.size, A, c, rfl, ?_, Kd.C_below HR.out (below_alloc (Below.refl _ _) _), HL.out, HB.out.alloc HB.out.size _⟩
  rw [blk_cell (blk_new _ _)]
  rfl


/-! ### trace_Unlike: function 62 -/
-- by hand
def trace_Unlike.f (l0 : List Int) : Option (List Int) := if l0.length ≤ 1000000 ∧ (∀ x ∈ l0, (Lit.int .u64 x).wf = true) then some (unlikeOf l0) else none
set_option maxRecDepth 100000 in
set_option maxHeartbeats 2000000 in
theorem trace_Unlike.calls (A0 : Option Addr) (c0 : Nat) (l0 : List Int) (r : List Int) (w : World) (hr0 : Kd.C (Kd.int .u64) w A0 l0.length l0) (hc0 : l0.length ≤ c0) (h : trace_Unlike.f l0 = some r) :
    Calls Try.prog 62 #[.slice A0 l0.length c0] w fun e w' => ∃ v0_ : Value, e = .returned (v0_) ∧ Kd.R (Kd.int .u64) 60 w' w.heap.size (fun _ => True) v0_ r ∧ Below w.heap.size w w' := by
  unfold trace_Unlike.f at h
  by_cases hh : l0.length ≤ 1000000 ∧ (∀ x ∈ l0, (Lit.int .u64 x).wf = true)
  · rw [if_pos hh] at h
    obtain rfl := Option.some.inj h
    clear h
    obtain ⟨hlen, hw⟩ := hh
    have HR0 := Aside0.mk hr0
    have HC0 := Aside0.mk hc0
    have HW := Aside0.mk hw
    clear hr0 hc0 hw
    obtain ⟨i0, hi, hzz⟩ := Option.map_eq_some_iff.1 info60
    simp only [Prod.mk.injEq] at hzz
    obtain ⟨hz0, hz1, hz2⟩ := hzz
    have HI := Aside0.mk hi
    have HZ0 := Aside0.mk hz0
    have HZ1 := Aside0.mk hz1
    have HZ2 := Aside0.mk hz2
    clear hi hz0 hz1 hz2
    have hro : Fence.wide.round = none := rfl
    have bO := Boxed.new w 22 (.slice none 0 0)
    have BO := Aside0.mk bO
    clear bO
    refine (callsIn_wide (n := 5)).1 ?_
    refine callsIn_of_wp_marks Try.func62 rfl trivial ?_ rfl
    simp only [Try.ntmps62, List.size_toArray, List.length_cons, List.length_nil, Nat.reduceAdd, Nat.reduceSub, Array.replicate_succ, Array.replicate_zero, List.push_toArray, List.append_toArray, List.nil_append, List.cons_append]
    gi_wp2_with fail
    refine ⟨trivial, ?_⟩
    refine (callsIn_wide.2 (trace_Often.calls A0 c0 l0 _ (Kd.C_below HR0.out (below_alloc (Below.refl _ _) _)) HC0.out hlen)).mono ?_
    rintro e w1 ⟨Bs, A, c, rfl, hbs, hr, hc, hB⟩
    have HBS := Aside0.mk hbs
    have HR := Aside0.mk hr
    have HC := Aside0.mk hc
    have HB := Aside0.mk hB
    clear hbs hr hc hB
    gi_wp2
    have hbw : Below w.heap.size w w1 := (below_alloc (Below.refl w.heap.size w) (.cells #[.slice none 0 0] 22)).trans (HB.out.mono (by simp))
    have HBW := Aside0.mk hbw
    have bO : Boxed w1 w.heap.size 22 (.slice none 0 0) := (HB.out.block w.heap.size (by simp)).trans BO.out
    have hBlt : w.heap.size < w1.heap.size := bO.lt
    have hbox : ∀ b, boxRow w1 w.heap.size = some b → b < w1.heap.size := by
      intro b hb
      unfold boxRow at hb
      rw [bO.cell] at hb
      cases hb
    have hseq : SeqStopsK Fence.wide (5 - 1) Try.prog 115 #[.pointer (some ⟨Bs, 0, none⟩)] (fun x : Int × Int => #[Value.int .u64 x.1, Value.int .i64 x.2]) (KeepsBox w.heap.size) (fun ys => ys = oftenOf l0) (fun _ => True) (unlikeOf l0).length w1 := fun l J Jx W hW hJ hJx hY h0 => by
      have hcell : W.cell? ⟨Bs, 0, none⟩ = some (.slice A l0.length c) := pw_cell_below hW HBS.out
      have hbx : boxRow W w.heap.size = boxRow w1 w.heap.size := by unfold boxRow; rw [hW.cell (p := ⟨w.heap.size, 0, none⟩) hBlt]
      exact often1_in 4 l Bs w.heap.size A c l0 (by decide) hlen HW.out J Jx W hJ hY hcell (Kd.C_below HR.out hW) HC.out (Nat.lt_of_lt_of_le hBlt hW.size) (fun b hb => Nat.lt_of_lt_of_le (hbox b (hbx ▸ hb)) hW.size) h0
    refine wpIn_rangeFunc_ownG hro (by decide) (gf := 115) (lb := #[.pointer (some ⟨Bs, 0, none⟩)]) rfl trivial (enters_of Try.func115 (by kernel_rfl) rfl)
      hseq (fun h k => KeepsBox.trans h k) (KeepsBox.putObj hBlt) (Below.refl _ _) (fun _ => rfl)
      (fun pre W => (∃ v, Boxed W w.heap.size 22 v ∧ W.ownsRow w.heap.size 60 1 v pre.length (pre.map fun x => Value.int .u64 x.1) ∧ True) ∧ Below w.heap.size w W)
      (fun _ _ _ => False)
      (OwnFrom.and (Own.from (holdsRow_own w.heap.size w.heap.size 22 60 1 (fun pre : List (Int × Int) => pre.length) (fun pre => pre.map fun x => Value.int .u64 x.1) (fun _ _ => True)) _) (ownFrom_below (Nat.le_refl _) (by omega)))
      (fun _ _ _ _ _ hs _ _ => hs)
      ⟨⟨_, bO, own_nil _ _ _ _, trivial⟩, hbw⟩
      (fun x => { tmps := #[.slice A0 l0.length c0, undef, .slice none 0 0, .pointer (some ⟨w.heap.size, 0, none⟩), .int .u64 x.1, .slice A0 l0.length c0, .func (.func 115) #[] #[.pointer (some ⟨Bs, 0, none⟩)], .int .u64 x.1, .int .i64 x.2, undef, undef, undef, undef, undef], defers := [] }) ?assign ?body ?done ?stop
    case assign =>
      intro l x W K hK
      gi_wp2
      exact hK
    case body =>
      rintro l pre x W ⟨⟨v, hv, hrow, _⟩, hB⟩ hlt
      have hc := hv.cell
      have hul := unlikeOf_len _ l0 rfl
      have hml : pre.length + 1 ≤ maxLen := by simp only [maxLen]; omega
      have hmb : (pre.length + 1) * 8 ≤ 140737488355328 := by omega
      have hbs : w.heap.size ≤ W.heap.size + 1 := by have := hB.size; omega
      clear hlt hul
      gi_wp2_with (gi_at_builtin; refine wpListIn_append_own_at _ rfl (.tmp 9) (.tmp 11) 22 rfl w.heap.size 60 i0 (.int .u64 0) 1 8 Try.underlying22 HI.out HZ0.out HZ1.out HZ2.out rfl (by decide) _ _ _ rfl (hrow.alloc _) ⟨W.heap.size, 0, none⟩ 1 1 [.int .u64 x.1] rfl rfl (cell_one_new _ _ _) (by simp [Value.oneCell']) hml hmb (by simpa using hbs) ?_; intro v' w2 hown' hgrow _ hat; obtain ⟨g', cap', rfl⟩ := ownsRow_succ hown'; obtain ⟨hv1, hv2, hr2, hk2, hb2⟩ := hv.appended (by decide) hrow hB.size (Nat.le_refl _) hown' hgrow; have hkb := KeepsBox.appended hv (by decide) hrow hown' hgrow (hat.imp id (fun h => ⟨_, h, by simp⟩)); have hc1 := hv1.cell; have hf1 := hv1.frozen; clear hat)
      exact ⟨hk2.from _, hkb, ⟨_, hv2, by simpa using hr2, trivial⟩, hB.trans hb2⟩
    case done =>
      rintro D ys W hD rfl ⟨⟨v, hv, hrow, _⟩, hB⟩ hK
      have hc := hv.cell
      gi_wp2
      refine ⟨by simp, .inl ⟨_, _, rfl, run_takeDeferred hK, ?_⟩⟩
      refine ⟨_, results_tmp rfl _ _ _, v, rfl, ?_, hB.trans (belowK_b (w := w) (Nat.le_refl _) W D _ _ (by omega) hK rfl rfl)⟩
      refine Kd.R_of_own ?_ (fun _ _ => trivial)
      have := ownsRow_putObj hrow (.deferred none) hK rfl
      simpa [oftenOf, encs, Function.comp_def] using this
    case stop =>
      rintro D c pre W _ _ h _
      exact h.elim
  · rw [if_neg hh] at h
    exact absurd h (by simp)


/-! ### rename_Dense: function 16 -/
-- by hand
theorem unlikeOf_nodup (d : Nat) : ∀ (l : List Int), l.length = d → (unlikeOf l).Nodup := by
  induction d with
  | zero => intro l hl; obtain rfl := List.eq_nil_of_length_eq_zero hl; simp [unlikeOf]
  | succ d ih =>
    intro l hl
    have hne : l ≠ [] := by intro e; rw [e] at hl; simp at hl
    have e := List.dropLast_concat_getLast hne
    generalize l.getLast hne = y at e
    have hdl : l.dropLast.length = d := by simp; omega
    have h1 := ih _ hdl
    rw [← e, unlikeOf_snoc]
    split
    · exact h1
    · rename_i hm
      rw [List.nodup_append]
      refine ⟨h1, by simp, fun a ha b hb => ?_⟩
      simp only [List.mem_singleton] at hb
      subst hb
      intro he
      subst he
      exact hm ha
/-- Where each key stands, if it does. -/
def placeIn (l : List Int) (x : Int) : Option Int := if x ∈ l then some ((l.idxOf x : Nat) : Int) else none
theorem placeIn_snoc (l : List Int) (x : Int) (hx : x ∉ l) : (fun y => if y = x then some ((l.length : Nat) : Int) else placeIn l y) = placeIn (l ++ [x]) := by
  funext y
  unfold placeIn
  by_cases h : y = x
  · subst h
    rw [if_pos rfl, if_pos (by simp), List.idxOf_append, if_neg hx]
    simp
  · rw [if_neg h]
    have : y ∈ l ++ [x] ↔ y ∈ l := by simp [h]
    by_cases hy : y ∈ l
    · rw [if_pos hy, if_pos (this.2 hy), List.idxOf_append, if_pos hy]
    · rw [if_neg hy, if_neg (fun hh => hy (this.1 hh))]
def denseOf (l : List Int) : List Int := l.map fun x => (((unlikeOf l).idxOf x : Nat) : Int)
def rename_Dense.f (l0 : List Int) : Option (List Int × List Int) := if l0.length ≤ 1000000 ∧ (∀ x ∈ l0, (Lit.int .u64 x).wf = true) then some (denseOf l0, unlikeOf l0) else none
set_option maxRecDepth 100000 in
set_option maxHeartbeats 3200000 in
theorem rename_Dense.calls (A0 : Option Addr) (c0 : Nat) (l0 : List Int) (r1 : List Int) (r2 : List Int) (w : World) (hr0 : Kd.C (Kd.int .u64) w A0 l0.length l0) (hc0 : l0.length ≤ c0) (h : rename_Dense.f l0 = some (r1, r2)) :
    Calls Try.prog 16 #[.slice A0 l0.length c0] w fun e w' => ∃ v0_ v1_ : Value, e = .returned (.tuple #[v0_, v1_]) ∧ Kd.R (Kd.int .u64) 60 w' w.heap.size (fun _ => True) v0_ r1 ∧ Kd.R (Kd.int .u64) 60 w' w.heap.size (fun _ => True) v1_ r2 ∧ Below w.heap.size w w' := by
  unfold rename_Dense.f at h
  by_cases hh : l0.length ≤ 1000000 ∧ (∀ x ∈ l0, (Lit.int .u64 x).wf = true)
  · have hun : trace_Unlike.f l0 = some (unlikeOf l0) := by unfold trace_Unlike.f; rw [if_pos hh]
    rw [if_pos hh] at h
    obtain ⟨rfl, rfl⟩ := Prod.mk.inj (Option.some.inj h)
    clear h
    obtain ⟨hlen, hw⟩ := hh
    have HR0 := Aside0.mk hr0
    have HC0 := Aside0.mk hc0
    have HW := Aside0.mk hw
    have HU := Aside0.mk hun
    obtain ⟨nm, hnm⟩ : ∃ nm, nm = unlikeOf l0 := ⟨_, rfl⟩
    have hnl : nm.length ≤ 1000000 := by have := unlikeOf_len _ l0 rfl; rw [hnm]; omega
    have hnw : ∀ x ∈ nm, (Lit.int .u64 x).wf = true := fun x hx => hw x ((unlikeOf_mem _ l0 rfl x).1 (hnm ▸ hx))
    have hnd : nm.Nodup := hnm ▸ unlikeOf_nodup _ l0 rfl
    have hin : ∀ x ∈ l0, x ∈ nm := fun x hx => hnm ▸ (unlikeOf_mem _ l0 rfl x).2 hx
    have hdn : denseOf l0 = l0.map fun x => ((nm.idxOf x : Nat) : Int) := by rw [hnm]; rfl
    rw [hdn]
    rw [← hnm] at HU ⊢
    have HNW := Aside0.mk hnw
    have HND := Aside0.mk hnd
    have HIN := Aside0.mk hin
    clear hr0 hc0 hw hun hnm hnw hnd hin hdn
    have hmm := @run_makeMap Try.prog
    have hz : ∀ w : World, (zeroValue 3).run Try.prog w = .ok (.int .i64 0) w := fun w => by kernel_rfl
    have HZ := Aside0.mk hz
    clear hz
    go_enter Try.func16, Try.ntmps16
    go_wp2_with (first
      | (go_at_call 62; refine (trace_Unlike.calls _ _ l0 _ _ HR0.out HC0.out HU.out).mono ?_; rintro e w1 ⟨v, rfl, hO, hB⟩; obtain ⟨A, c, hv, hl, hr⟩ := Kd.R_reads hO; subst hv; have HO1 := Aside0.mk hO; have HB1 := Aside0.mk hB; clear hO hB hl hr)
      | (at_make; skip))
    have HM0 := Aside0.mk (OwnsU.made Try.prog 60 3 .u64 w1)
    have HB0 := Aside0.mk (HB1.out.alloc HB1.out.size (.map #[] 0))
    have HO0 := Aside0.mk (Kd.R_below HO1.out (below_alloc (Below.refl w1.heap.size w1) (.map #[] 0)))
    go_loopw [16, 6, 7] (fun v16 v6 v7 wr => ∃ k : Nat, v16 = .int .i64 k ∧ k ≤ nm.length ∧ Aside0 (OwnsU Try.prog 60 3 .u64 wr w1.heap.size k (placeIn (nm.take k))) ∧ Aside0 (Kd.R (Kd.int .u64) 60 wr w.heap.size (fun _ => True) (.slice A nm.length c) nm) ∧ Aside0 (Below w.heap.size w wr)) (fun v16 _ _ _ => nm.length - (intOf v16).toNat)
    case atStart => exact ⟨0, rfl, Nat.zero_le _, HM0, HO0, HB0⟩
    case round =>
      clear HM0 HB0 HO0
      obtain ⟨k, rfl, hk, HM, HO, HB⟩ := hrel
      by_cases hlt : k < nm.length
      · have p1 : (0 : Int) ≤ (k : Int) := by omega
        have q1 : (k : Int) < (nm.length : Int) := by omega
        obtain ⟨A', c', hv', hl', hr'⟩ := Kd.R_reads HO.out
        injection hv' with hv1 hv2 hv3
        rw [← hv1] at hr'
        obtain ⟨ad, e1, hx⟩ := Kd.at_int hr' (k : Int) p1 q1
        clear hv1 hv2 hv3 hr' hl'
        cases e1
        rw [Int.toNat_natCast] at hx
        obtain ⟨x, hxd⟩ : ∃ x, x = rd nm (k : Int) := ⟨_, rfl⟩
        rw [← hxd] at hx
        have hxd2 : x = nm[k] := by rw [hxd]; simp [rd, List.getD_eq_getElem?_getD, List.getElem?_eq_getElem hlt]
        have hwx : (Lit.int .u64 x).wf = true := by rw [hxd2]; exact HNW.out _ (List.getElem_mem _)
        have htk : nm.take (k + 1) = nm.take k ++ [x] := by rw [List.take_succ_eq_append_getElem hlt, hxd2]
        have hni : x ∉ nm.take k := by
          have h1 : (nm.take (k + 1)).Nodup := HND.out.sublist (List.take_sublist _ _)
          rw [htk, List.nodup_append] at h1
          intro hx
          exact h1.2.2 x hx x (by simp) rfl
        have hpl : (nm.take k).length = k := by rw [List.length_take]; omega
        have hps := placeIn_snoc _ _ hni
        rw [hpl, ← htk] at hps
        have HWX := Aside0.mk hwx
        have HPS := Aside0.mk hps
        clear hxd hxd2 hwx htk hni hpl hps
        have p2 := eq_true p1
        have q2 := eq_true q1
        go_wp2_with (first
          | (at_mapUpdate; refine OwnsU.update (m := placeIn (nm.take k)) rfl (.tmp 21) (.tmp 22) (.tmp 23) 87 rfl Try.underlying60 Try.underlying87 Try.underlying3 (b := w1.heap.size) (n := k) (by unfold maxLen; omega) (by exact HM.out) rfl x k rfl rfl HWX.out (wf_small _ (by omega) (by omega)) ?_; intro w3 HM3 hgr3))
        rw [HPS.out] at HM3
        have HM3' := Aside0.mk HM3
        have HO3 : Aside0 (Kd.R (Kd.int .u64) 60 w3 w.heap.size (fun _ => True) (.slice _ nm.length c) nm) := ⟨R_mapped HO.out HM.out hgr3⟩
        have HB3 := Aside0.mk (HB.out.grown hgr3 HB.out.size (fun j hj => by cases hj; exact HB1.out.size))
        clear HM3 hgr3
        go_wp2
        go_roundw
        case rel => exact ⟨k + 1, by go_num, by omega, HM3', HO3, HB3⟩
        case measure => simp [intOf]; omega
      · have hkn : k = nm.length := by omega
        rw [List.take_of_length_le (by omega)] at HM
        clear hk hkn
        go_wp2
        clear hlt
        rename World => W2
        go_loopw [27, 8, 10] (fun v27 v8 v10 wq => ∃ j : Nat, v27 = .int .i64 j ∧ j ≤ l0.length ∧ Aside0 (Kd.R (Kd.int .u64) 60 wq W2.heap.size (fun _ => True) v8 ((l0.take j).map fun x => ((nm.idxOf x : Nat) : Int))) ∧ Aside0 (Below W2.heap.size W2 wq)) (fun v27 _ _ _ => l0.length - (intOf v27).toNat)
        case atStart => exact ⟨0, rfl, Nat.zero_le _, ⟨Kd.R_nil _ _ _ _ _⟩, ⟨Below.refl _ _⟩⟩
        case round =>
          obtain ⟨j, rfl, hj, HQ, HE⟩ := hrel
          by_cases hlt : j < l0.length
          · have p1 : (0 : Int) ≤ (j : Int) := by omega
            have q1 : (j : Int) < (l0.length : Int) := by omega
            obtain ⟨ad, e1, hx⟩ := Kd.at_int HR0.out (j : Int) p1 q1
            cases e1
            replace hx := (HB.out.cell (World.block_lt_of_cell? w _ hx)).trans hx
            replace hx := (HE.out.cell (World.block_lt_of_cell? _ _ hx)).trans hx
            rw [Int.toNat_natCast] at hx
            obtain ⟨x, hxd⟩ : ∃ x, x = rd l0 (j : Int) := ⟨_, rfl⟩
            rw [← hxd] at hx
            have hxd2 : x = l0[j] := by rw [hxd]; simp [rd, List.getD_eq_getElem?_getD, List.getElem?_eq_getElem hlt]
            have hxm : x ∈ l0 := by rw [hxd2]; exact List.getElem_mem _
            have hwx : (Lit.int .u64 x).wf = true := HW.out _ hxm
            have htk : (l0.take (j + 1)).map (fun x => ((nm.idxOf x : Nat) : Int)) = (l0.take j).map (fun x => ((nm.idxOf x : Nat) : Int)) ++ [((nm.idxOf x : Nat) : Int)] := by rw [List.take_succ_eq_append_getElem hlt, ← hxd2, List.map_append]; rfl
            have hpi : (placeIn nm x).getD 0 = ((nm.idxOf x : Nat) : Int) := by unfold placeIn; rw [if_pos (HIN.out _ hxm)]; rfl
            have hix : nm.idxOf x < nm.length := List.idxOf_lt_length_of_mem (HIN.out _ hxm)
            have hwr : IntKind.u64.wrap ((nm.idxOf x : Nat) : Int) = ((nm.idxOf x : Nat) : Int) := by
              have e2 : IntKind.u64.wrap ((nm.idxOf x : Nat) : Int) = ((nm.idxOf x : Nat) : Int) % 18446744073709551616 := by simp [IntKind.wrap, IntKind.bits, IntKind.signed]
              rw [e2]; omega
            have hul : ((l0.take j).map (fun x => ((nm.idxOf x : Nat) : Int))).length ≤ 1000000 := by rw [List.length_map, List.length_take]; omega
            have HWX := Aside0.mk hwx
            have HTK := Aside0.mk htk
            have HPI := Aside0.mk hpi
            have HUL := Aside0.mk hul
            have HWR := Aside0.mk hwr
            clear hxd hxd2 hwx htk hxm hpi hul hix hwr
            have p2 := eq_true p1
            have q2 := eq_true q1
            go_wp2_with (first
              | (at_lookup; refine OwnsU.look (m := placeIn nm) rfl (.tmp 32) (.tmp 33) 87 rfl Try.underlying60 Try.underlying87 Try.underlying3 (HZ.out _) (b := w1.heap.size) (n := k) (OwnsU.below HM.out HE.out) rfl x rfl HWX.out ?_; rw [HPI.out])
              | ((with_reducible refine gate_builtin (b := .append) (xs := #[.tmp 31, .tmp 36]) rfl ?_); at_builtin; go_loud (refine Kd.R_append (Kd.int .u64) (w0 := W2) W2.heap.size rfl (.tmp 31) (.tmp 36) 22 60 (.int .u64 0) 8 rfl Try.underlying22 info60 rfl (by decide) (by omega) u8 ((l0.take j).map fun x => ((nm.idxOf x : Nat) : Int)) (IntKind.u64.wrap ((nm.idxOf x : Nat) : Int)) [.int .u64 (IntKind.u64.wrap ((nm.idxOf x : Nat) : Int))] (fun _ => True) (fun _ => False) rfl rfl ?aP (fun _ hk => hk.elim) ?aF ?aO ?aB ?aS ?aL ?_); (case aP => exact rfl); (case aB => exact HE.out); (case aF => exact fun _ _ => trivial); (case aO => exact HQ.out); (case aS => exact HE.out.size); (case aL => have := HUL.out; omega); intro v2 w2 ho hb hg hat; have HQ2 := Aside0.mk ho; have HE2 := Aside0.mk hb; clear ho hb hg hat))
            have HQ3 : Aside0 (Kd.R (Kd.int .u64) 60 w2 W2.heap.size (fun _ => True) v2 ((l0.take (j + 1)).map fun x => ((nm.idxOf x : Nat) : Int))) := ⟨by
              have := HQ2.out
              rw [HWR.out, ← HTK.out] at this
              exact this⟩
            clear HQ2
            go_roundw
            case rel => exact ⟨j + 1, by go_num, by omega, HQ3, HE2⟩
            case measure => simp [intOf]; omega
          · have hjn : j = l0.length := by omega
            rw [List.take_of_length_le (by omega)] at HQ
            clear hjn
            go_wp2
            go_ret2
            refine ⟨_, _, rfl, Kd.R_lower HQ.out HB.out.size, Kd.R_below HO.out HE.out, HB.out.trans (HE.out.mono HB.out.size)⟩
  · rw [if_neg hh] at h
    exact absurd h (by simp)

/-! ### slices_Equal_uint64_uint64: function 63 -/
def slices_Equal_uint64_uint64.l0 : Nat → List Int → List Int → Int → Int → Option (Bool)
  | 0, _, _, _, _ => none
  | k + 1, x0, x1, x12, x13 => if x13 < x12 then (if 0 ≤ x13 then (if x13 < (x0.length : Int) then (if x13 < (x1.length : Int) then (if (rd x0 x13) = (rd x1 x13) then (slices_Equal_uint64_uint64.l0 k x0 x1 x12 (wrap64 (x13 + 1))) else (some false)) else (none)) else (none)) else (none)) else (some true)
def slices_Equal_uint64_uint64.f (k : Nat) (l0 : List Int) (l1 : List Int) : Option (Bool) := if (l0.length : Int) = (l1.length : Int) then (slices_Equal_uint64_uint64.l0 k l0 l1 (l0.length : Int) 0) else (some false)
theorem slices_Equal_uint64_uint64.mono_l : ∀ k, (∀ y0 y1 y2 y3, LeO (slices_Equal_uint64_uint64.l0 k y0 y1 y2 y3) (slices_Equal_uint64_uint64.l0 (k + 1) y0 y1 y2 y3))
  | 0 => fun _ _ _ _ r h => by simp [slices_Equal_uint64_uint64.l0] at h
  | k + 1 => by
    have ih0 := slices_Equal_uint64_uint64.mono_l k
    · intro y0 y1 y2 y3
      unfold slices_Equal_uint64_uint64.l0
      repeat' first
      | (with_reducible exact ih0 _ _ _ _)
      | (with_reducible exact LeO.refl _)
      | (with_reducible exact LeO.none _)
      | (with_reducible refine LeO.ite ?_ ?_)
      | (with_reducible refine LeO.bind ?_ (fun _ => ?_))
      | exact ih0 _ _ _ _
      | exact LeO.none _
      | refine LeO.ite ?_ ?_
      | refine LeO.bind ?_ (fun _ => ?_)
theorem slices_Equal_uint64_uint64.mono : ∀ a0 a1 k, LeO (slices_Equal_uint64_uint64.f k a0 a1) (slices_Equal_uint64_uint64.f (k + 1) a0 a1) := by
  intro a0 a1 k
  have ih0 := slices_Equal_uint64_uint64.mono_l k
  unfold slices_Equal_uint64_uint64.f
  repeat' first
      | (with_reducible exact ih0 _ _ _ _)
      | (with_reducible exact LeO.refl _)
      | (with_reducible exact LeO.none _)
      | (with_reducible refine LeO.ite ?_ ?_)
      | (with_reducible refine LeO.bind ?_ (fun _ => ?_))
      | exact ih0 _ _ _ _
      | exact LeO.none _
      | refine LeO.ite ?_ ?_
      | refine LeO.bind ?_ (fun _ => ?_)
set_option maxHeartbeats 8000000 in
set_option maxRecDepth 100000 in
theorem slices_Equal_uint64_uint64.calls (k : Nat) (A0 : Option Addr) (c0 : Nat) (l0 : List Int) (A1 : Option Addr) (c1 : Nat) (l1 : List Int) (r : Bool) (w : World) (hr0 : Kd.C (Kd.int .u64) w A0 l0.length l0) (hc0 : l0.length ≤ c0) (hr1 : Kd.C (Kd.int .u64) w A1 l1.length l1) (hc1 : l1.length ≤ c1) (h : slices_Equal_uint64_uint64.f k l0 l1 = some r) :
    Calls Try.prog 63 #[.slice A0 l0.length c0, .slice A1 l1.length c1] w fun e w' => e = .returned (.bool r) ∧ Drawn0 w w' := by
  have HR0 := Aside0.mk hr0
  have HC0 := Aside0.mk hc0
  clear hr0 hc0
  have HR1 := Aside0.mk hr1
  have HC1 := Aside0.mk hc1
  clear hr1 hc1
  have H : (if (l0.length : Int) = (l1.length : Int) then (slices_Equal_uint64_uint64.l0 k l0 l1 (l0.length : Int) 0) else (some false)) = some r := h
  clear h
  by_cases c3 : (l0.length : Int) = (l1.length : Int)
  · rw [if_pos c3] at H
    have c3b0 : ((l0.length : Int) == (l1.length : Int)) = true := beq_iff_eq.mpr c3
    have c3b1 : ((l0.length : Int) != (l1.length : Int)) = false := bne_eq_false_iff_eq.mpr c3
    have c3b2 : (l0.length == l1.length) = true := by first | simpa using c3 | (simp at c3 ⊢; omega)
    clear c3
    have H' := Aside0.mk H
    clear H
    go_enter Try.func63, Try.ntmps63
    go_wp2
    repeat (go_quiet (fail); try go_wp2)
    go_loopg [13] k (fun kq v13 w' => ∃ (x13_1 : Int), v13 = .int .i64 x13_1 ∧ Aside0 (slices_Equal_uint64_uint64.l0 kq l0 l1 (l0.length : Int) x13_1 = some r) ∧ Aside0 (kq ≤ k) ∧ Drawn0 w w')
    case atStart => exact ⟨(0), (by first | rfl | (simp; done) | (simp [*]; done)), H', ⟨Nat.le_refl _⟩, by repeat (first | exact Drawn0.refl _ | apply Drawn0.step)⟩
    case round =>
      clear H'
      try clear c1
      try clear p2
      try clear c3
      try clear c3b0
      try clear c3b1
      try clear c3b2
      obtain ⟨x13_1, rfl, HA, HK1, ⟨m1, rfl⟩⟩ := hrel
      cases gk with
      | zero => exact absurd HA.out (by simp [slices_Equal_uint64_uint64.l0])
      | succ k1 =>
        have H := HA.out
        clear HA
        simp only [slices_Equal_uint64_uint64.l0] at H
        by_cases c4 : x13_1 < (l0.length : Int)
        · rw [if_pos c4] at H
          have c4b0 : decide (x13_1 < (l0.length : Int)) = true := decide_eq_true c4
          clear c4
          by_cases c5 : 0 ≤ x13_1
          · rw [if_pos c5] at H
            have c5b0 : decide (0 ≤ x13_1) = true := decide_eq_true c5
            clear c5
            by_cases c6 : x13_1 < (l0.length : Int)
            · rw [if_pos c6] at H
              have c6b0 : decide (x13_1 < (l0.length : Int)) = true := decide_eq_true c6
              clear c6
              by_cases c7 : x13_1 < (l1.length : Int)
              · rw [if_pos c7] at H
                have c7b0 : decide (x13_1 < (l1.length : Int)) = true := decide_eq_true c7
                clear c7
                by_cases c8 : (rd l0 x13_1) = (rd l1 x13_1)
                · rw [if_pos c8] at H
                  have c8b0 : ((rd l0 x13_1) == (rd l1 x13_1)) = true := beq_iff_eq.mpr c8
                  have c8b1 : ((rd l0 x13_1) != (rd l1 x13_1)) = false := bne_eq_false_iff_eq.mpr c8
                  clear c8
                  have H' := Aside0.mk H
                  clear H
                  have p101 : 0 ≤ (x13_1 : Int) := of_decide_eq_true (by first | (with_reducible assumption) | assumption)
                  have q101 : x13_1 < (l0.length : Int) := of_decide_eq_true (by first | (with_reducible assumption) | assumption)
                  obtain ⟨ad101, e101, hx101_0⟩ := Kd.at_int HR0.out x13_1 p101 q101
                  cases e101
                  replace p101 := eq_true p101
                  replace q101 := eq_true q101
                  have p102 : 0 ≤ (x13_1 : Int) := of_decide_eq_true (by first | (with_reducible assumption) | assumption)
                  have q102 : x13_1 < (l1.length : Int) := of_decide_eq_true (by first | (with_reducible assumption) | assumption)
                  obtain ⟨ad102, e102, hx102_0⟩ := Kd.at_int HR1.out x13_1 p102 q102
                  cases e102
                  replace p102 := eq_true p102
                  replace q102 := eq_true q102
                  go_wp2
                  repeat (go_quiet (fail); try go_wp2)
                  go_roundg k1
                  case measure => have := HK1.out; omega
                  case rel => exact ⟨(wrap64 (x13_1 + 1)), (by first | rfl | (simp; done) | (simp [*]; done)), H', ⟨by have := HK1.out; omega⟩, by repeat (first | exact Drawn0.refl _ | apply Drawn0.step)⟩
                · rw [if_neg c8] at H
                  have c8b0 : ((rd l0 x13_1) == (rd l1 x13_1)) = false := beq_eq_false_iff_ne.mpr c8
                  have c8b1 : ((rd l0 x13_1) != (rd l1 x13_1)) = true := bne_iff_ne.mpr c8
                  obtain rfl := Option.some.inj H
                  have p101 : 0 ≤ (x13_1 : Int) := of_decide_eq_true (by first | (with_reducible assumption) | assumption)
                  have q101 : x13_1 < (l0.length : Int) := of_decide_eq_true (by first | (with_reducible assumption) | assumption)
                  obtain ⟨ad101, e101, hx101_0⟩ := Kd.at_int HR0.out x13_1 p101 q101
                  cases e101
                  replace p101 := eq_true p101
                  replace q101 := eq_true q101
                  have p102 : 0 ≤ (x13_1 : Int) := of_decide_eq_true (by first | (with_reducible assumption) | assumption)
                  have q102 : x13_1 < (l1.length : Int) := of_decide_eq_true (by first | (with_reducible assumption) | assumption)
                  obtain ⟨ad102, e102, hx102_0⟩ := Kd.at_int HR1.out x13_1 p102 q102
                  cases e102
                  replace p102 := eq_true p102
                  replace q102 := eq_true q102
                  go_wp2
                  repeat (go_quiet (fail); try go_wp2)
                  go_ret
                  exact ⟨by first | rfl | (simp; done) | (simp [*]; done), by repeat (first | exact Drawn0.refl _ | apply Drawn0.step)⟩
              · rw [if_neg c7] at H
                exact absurd H (by simp)
            · rw [if_neg c6] at H
              exact absurd H (by simp)
          · rw [if_neg c5] at H
            exact absurd H (by simp)
        · rw [if_neg c4] at H
          have c4b0 : decide (x13_1 < (l0.length : Int)) = false := decide_eq_false c4
          clear c4
          obtain rfl := Option.some.inj H
          go_wp2
          repeat (go_quiet (fail); try go_wp2)
          go_ret
          exact ⟨by first | rfl | (simp; done) | (simp [*]; done), by repeat (first | exact Drawn0.refl _ | apply Drawn0.step)⟩
  · rw [if_neg c3] at H
    have c3b0 : ((l0.length : Int) == (l1.length : Int)) = false := beq_eq_false_iff_ne.mpr c3
    have c3b1 : ((l0.length : Int) != (l1.length : Int)) = true := bne_iff_ne.mpr c3
    have c3b2 : (l0.length == l1.length) = false := by first | simpa using c3 | (simp at c3 ⊢; omega)
    obtain rfl := Option.some.inj H
    go_enter Try.func63, Try.ntmps63
    go_wp2
    repeat (go_quiet (fail); try go_wp2)
    go_ret
    exact ⟨by first | rfl | (simp; done) | (simp [*]; done), by repeat (first | exact Drawn0.refl _ | apply Drawn0.step)⟩

/-! ### rename_Alike: function 17 -/
def rename_Alike.f (k : Nat) (l0 : List Int) (l1 : List Int) : Option (Bool) := (rename_Dense.f l0).bind fun bt103 => ((rename_Dense.f l1).bind fun bt109 => ((slices_Equal_uint64_uint64.f k bt103.1 bt109.1).bind fun t115 => (some t115)))
theorem rename_Alike.mono : ∀ a0 a1 k, LeO (rename_Alike.f k a0 a1) (rename_Alike.f (k + 1) a0 a1) := by
  intro a0 a1 k
  unfold rename_Alike.f
  repeat' first
      | (with_reducible exact slices_Equal_uint64_uint64.mono _ _ _)
      | (with_reducible exact LeO.refl _)
      | (with_reducible exact LeO.none _)
      | (with_reducible refine LeO.ite ?_ ?_)
      | (with_reducible refine LeO.bind ?_ (fun _ => ?_))
      | exact slices_Equal_uint64_uint64.mono _ _ _
      | exact LeO.none _
      | refine LeO.ite ?_ ?_
      | refine LeO.bind ?_ (fun _ => ?_)
set_option maxHeartbeats 8000000 in
set_option maxRecDepth 100000 in
theorem rename_Alike.calls (k : Nat) (A0 : Option Addr) (c0 : Nat) (l0 : List Int) (A1 : Option Addr) (c1 : Nat) (l1 : List Int) (r : Bool) (w : World) (hr0 : Kd.C (Kd.int .u64) w A0 l0.length l0) (hc0 : l0.length ≤ c0) (hr1 : Kd.C (Kd.int .u64) w A1 l1.length l1) (hc1 : l1.length ≤ c1) (h : rename_Alike.f k l0 l1 = some r) :
    Calls Try.prog 17 #[.slice A0 l0.length c0, .slice A1 l1.length c1] w fun e w' => e = .returned (.bool r) ∧ Below w.heap.size w w' := by
  have HR0 := Aside0.mk hr0
  have HC0 := Aside0.mk hc0
  clear hr0 hc0
  have HR1 := Aside0.mk hr1
  have HC1 := Aside0.mk hc1
  clear hr1 hc1
  have HB := Aside0.mk (Below.refl w.heap.size w)
  have H : ((rename_Dense.f l0).bind fun bt103 => ((rename_Dense.f l1).bind fun bt109 => ((slices_Equal_uint64_uint64.f k bt103.1 bt109.1).bind fun t115 => (some t115)))) = some r := h
  clear h
  replace H := Option.bind_eq_some_iff.mp H
  obtain ⟨⟨t103, t104⟩, A30, H⟩ := H
  replace H : ((rename_Dense.f l1).bind fun bt109 => ((slices_Equal_uint64_uint64.f k t103 bt109.1).bind fun t115 => (some t115))) = some r := H
  have A3 := Aside0.mk A30
  clear A30
  replace H := Option.bind_eq_some_iff.mp H
  obtain ⟨⟨t109, t110⟩, A40, H⟩ := H
  replace H : ((slices_Equal_uint64_uint64.f k t103 t109).bind fun t115 => (some t115)) = some r := H
  have A4 := Aside0.mk A40
  clear A40
  replace H := Option.bind_eq_some_iff.mp H
  obtain ⟨t115, A50, H⟩ := H
  replace H : (some t115) = some r := H
  have A5 := Aside0.mk A50
  clear A50
  obtain rfl := Option.some.inj H
  go_enter Try.func17, Try.ntmps17
  go_wp2_with (first | ((with_reducible refine gate_callee (f := 16) rfl ?_); refine goesL_ (some 11) rfl rfl Try.func16 (by kernel_rfl) rfl #[.slice A0 l0.length c0] rfl (by (try simp only [List.map_toArray, List.map_cons, List.map_nil]); first | done | rfl | (simp only [List.length_drop, List.length_take]; rfl)) ?_; (with_reducible refine (rename_Dense.calls _ _ l0 t103 t104 _ ?side1 ?side2 A3.out).mono ?_); (case side1 => repeat (first | exact HR0.out | (with_reducible refine Kd.C_alloc ?_ _) | (with_reducible refine Kd.C_drewN ?_ _) | (with_reducible refine Kd.C_drew ?_))); (case side2 => exact HC0.out); rintro e w6 ⟨v105, v107, rfl, ho0, ho1, hb⟩; refine ⟨_, rfl, ?_⟩; have n0_ := Aside0.mk (Kd.R_lower ho0 (below_size (by repeat (first | (with_reducible first | exact HB.out | apply below_alloc | apply pw_below_drewN | apply below_drew1) | exact HB.out)))); have n1_ := Aside0.mk (Kd.R_lower ho1 (below_size (by repeat (first | (with_reducible first | exact HB.out | apply below_alloc | apply pw_below_drewN | apply below_drew1) | exact HB.out)))); have n2_ := Aside0.mk (below_step (by repeat (first | (with_reducible first | exact HB.out | apply below_alloc | apply pw_below_drewN | apply below_drew1) | exact HB.out)) hb); clear HB; have HO106 := n0_; have HO108 := n1_; have HB := n2_; clear n0_ n1_ n2_; (try clear hb); (try clear hb2); (try clear hk); (try clear hi); (try clear ho0); (try clear ho1)) | ((with_reducible refine gate_callee (f := 16) rfl ?_); refine goesL_ (some 16) rfl rfl Try.func16 (by kernel_rfl) rfl #[.slice A1 l1.length c1] rfl (by (try simp only [List.map_toArray, List.map_cons, List.map_nil]); first | done | rfl | (simp only [List.length_drop, List.length_take]; rfl)) ?_; (with_reducible refine (rename_Dense.calls _ _ l1 t109 t110 _ ?side1 ?side2 A4.out).mono ?_); (case side1 => repeat (first | exact (Kd.C_below HR1.out HB.out) | (with_reducible refine Kd.C_alloc ?_ _) | (with_reducible refine Kd.C_drewN ?_ _) | (with_reducible refine Kd.C_drew ?_))); (case side2 => exact HC1.out); rintro e w7 ⟨v111, v113, rfl, ho0, ho1, hb⟩; refine ⟨_, rfl, ?_⟩; have n0_ := Aside0.mk (Kd.R_mono (Kd.R_told (Kd.R_told (Kd.R_old (by (with_reducible repeat (first | apply Kd.R_alloc | apply Kd.R_drewN | apply Kd.R_drew)); exact HO106.out) hb) (Kd.R_base ho0)) (Kd.R_base ho1)) (fun _ h_ => h_.1)); have n1_ := Aside0.mk (Kd.R_mono (Kd.R_told (Kd.R_told (Kd.R_old (by (with_reducible repeat (first | apply Kd.R_alloc | apply Kd.R_drewN | apply Kd.R_drew)); exact HO108.out) hb) (Kd.R_base ho0)) (Kd.R_base ho1)) (fun _ h_ => h_.1)); have n2_ := Aside0.mk (Kd.R_lower (Kd.R_new' (Kd.R_new' ho0 (Kd.R_lt (by (with_reducible repeat (first | apply Kd.R_alloc | apply Kd.R_drewN | apply Kd.R_drew)); exact HO106.out))) (Kd.R_lt (by (with_reducible repeat (first | apply Kd.R_alloc | apply Kd.R_drewN | apply Kd.R_drew)); exact HO108.out))) (below_size (by repeat (first | (with_reducible first | exact HB.out | apply below_alloc | apply pw_below_drewN | apply below_drew1) | exact HB.out)))); have n3_ := Aside0.mk (Kd.R_lower (Kd.R_new' (Kd.R_new' ho1 (Kd.R_lt (by (with_reducible repeat (first | apply Kd.R_alloc | apply Kd.R_drewN | apply Kd.R_drew)); exact HO106.out))) (Kd.R_lt (by (with_reducible repeat (first | apply Kd.R_alloc | apply Kd.R_drewN | apply Kd.R_drew)); exact HO108.out))) (below_size (by repeat (first | (with_reducible first | exact HB.out | apply below_alloc | apply pw_below_drewN | apply below_drew1) | exact HB.out)))); have n4_ := Aside0.mk (below_step (by repeat (first | (with_reducible first | exact HB.out | apply below_alloc | apply pw_below_drewN | apply below_drew1) | exact HB.out)) hb); clear HO106; clear HO108; clear HB; have HO106 := n0_; have HO108 := n1_; have HO112 := n2_; have HO114 := n3_; have HB := n4_; clear n0_ n1_ n2_ n3_ n4_; (try clear hb); (try clear hb2); (try clear hk); (try clear hi); (try clear ho0); (try clear ho1); obtain ⟨Ao8, co8, eo8⟩ := Kd.R_slice HO106.out; subst eo8; obtain ⟨Ao9, co9, eo9⟩ := Kd.R_slice HO112.out; subst eo9) | ((with_reducible refine gate_callee (f := 63) rfl ?_); refine goesL_ (some 21) rfl rfl Try.func63 (by kernel_rfl) rfl #[.slice Ao8 t103.length co8, .slice Ao9 t109.length co9] rfl (by (try simp only [List.map_toArray, List.map_cons, List.map_nil]); first | done | rfl | (simp only [List.length_drop, List.length_take]; rfl)) ?_; (with_reducible refine (slices_Equal_uint64_uint64.calls k _ _ t103 _ _ t109 t115 _ ?side1 ?side2 ?side3 ?side4 A5.out).mono ?_); (case side1 => repeat (first | exact (Kd.R_reads' HO106.out).2.2 | (with_reducible refine Kd.C_alloc ?_ _) | (with_reducible refine Kd.C_drewN ?_ _) | (with_reducible refine Kd.C_drew ?_))); (case side2 => exact (Kd.R_reads' HO106.out).2.1); (case side3 => repeat (first | exact (Kd.R_reads' HO112.out).2.2 | (with_reducible refine Kd.C_alloc ?_ _) | (with_reducible refine Kd.C_drewN ?_ _) | (with_reducible refine Kd.C_drew ?_))); (case side4 => exact (Kd.R_reads' HO112.out).2.1); rintro e w' ⟨rfl, ⟨nd, rfl⟩⟩; refine ⟨_, rfl, ?_⟩))
  go_ret
  exact ⟨by first | rfl | (simp [errW_none, errW_some] <;> rfl) | (simp [*, errW_none, errW_some] <;> rfl), by repeat (first | (with_reducible first | exact HB.out | apply below_alloc | apply pw_below_drewN | apply below_drew1) | exact HB.out)⟩

end Go.Proofs.Ytdjbpdahdakfjaa.PRen
