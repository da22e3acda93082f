-- Written by a program of this session (a turned copy of the kit's printer, texts of this session's own for functions that it does not take).
import Derived.Test.YtdjbpdahdakfjaaPBestx0
namespace Go.Proofs.Ytdjbpdahdakfjaa.PBest
open Go.RowKit Go.Proofs.YtdjbpdahdakfjaaH Go.Proofs.YtdjbpdahdakfjaaW.PrintWords Go.Proofs.YtdjbpdahdakfjaaW.PrintLast Go.Proofs.YtdjbpdahdakfjaaW.PrintMore
attribute [local go_sem] max2_int min2_int max_two min_two max_three min_three max_four min_four   -- for this text's walks alone
set_option linter.unusedVariables false
set_option linter.unusedSimpArgs false

/-! ### hutchref06_Same: function 25 -/
def hutchref06_Same.l0 : Nat → List Int → List Int → Int → Option (Bool)
  | 0, _, _, _ => none
  | k + 1, x0, x1, x5 => if x5 < (x0.length : Int) then (if 0 ≤ x5 then (if x5 < (x1.length : Int) then (if (rd x0 x5) = (rd x1 x5) then (hutchref06_Same.l0 k x0 x1 (wrap64 (x5 + 1))) else (some false)) else (none)) else (none)) else (some true)
def hutchref06_Same.f (k : Nat) (l0 : List Int) (l1 : List Int) : Option (Bool) := if (l0.length : Int) = (l1.length : Int) then (hutchref06_Same.l0 k l0 l1 0) else (some false)
theorem hutchref06_Same.mono_l : ∀ k, (∀ y0 y1 y2, LeO (hutchref06_Same.l0 k y0 y1 y2) (hutchref06_Same.l0 (k + 1) y0 y1 y2))
  | 0 => fun _ _ _ r h => by simp [hutchref06_Same.l0] at h
  | k + 1 => by
    have ih0 := hutchref06_Same.mono_l k
    · intro y0 y1 y2
      unfold hutchref06_Same.l0
      repeat' first
      | (with_reducible exact ih0 _ _ _)
      | (with_reducible exact LeO.refl _)
      | (with_reducible exact LeO.none _)
      | (with_reducible refine LeO.ite ?_ ?_)
      | (with_reducible refine LeO.bind ?_ (fun _ => ?_))
      | exact ih0 _ _ _
      | exact LeO.none _
      | refine LeO.ite ?_ ?_
      | refine LeO.bind ?_ (fun _ => ?_)
theorem hutchref06_Same.mono : ∀ a0 a1 k, LeO (hutchref06_Same.f k a0 a1) (hutchref06_Same.f (k + 1) a0 a1) := by
  intro a0 a1 k
  have ih0 := hutchref06_Same.mono_l k
  unfold hutchref06_Same.f
  repeat' first
      | (with_reducible exact ih0 _ _ _)
      | (with_reducible exact LeO.refl _)
      | (with_reducible exact LeO.none _)
      | (with_reducible refine LeO.ite ?_ ?_)
      | (with_reducible refine LeO.bind ?_ (fun _ => ?_))
      | exact ih0 _ _ _
      | exact LeO.none _
      | refine LeO.ite ?_ ?_
      | refine LeO.bind ?_ (fun _ => ?_)
set_option maxHeartbeats 8000000 in
set_option maxRecDepth 100000 in
theorem hutchref06_Same.calls (k : Nat) (A0 : Option Addr) (c0 : Nat) (l0 : List Int) (A1 : Option Addr) (c1 : Nat) (l1 : List Int) (r : Bool) (w : World) (hr0 : Kd.C (Kd.int .u64) w A0 l0.length l0) (hc0 : l0.length ≤ c0) (hr1 : Kd.C (Kd.int .u64) w A1 l1.length l1) (hc1 : l1.length ≤ c1) (h : hutchref06_Same.f k l0 l1 = some r) :
    Calls Try.prog 25 #[.slice A0 l0.length c0, .slice A1 l1.length c1] w fun e w' => e = .returned (.bool r) ∧ Drawn0 w w' := by
  have HR0 := Aside0.mk hr0
  have HC0 := Aside0.mk hc0
  clear hr0 hc0
  have HR1 := Aside0.mk hr1
  have HC1 := Aside0.mk hc1
  clear hr1 hc1
  have H : (if (l0.length : Int) = (l1.length : Int) then (hutchref06_Same.l0 k l0 l1 0) else (some false)) = some r := h
  clear h
  by_cases c3 : (l0.length : Int) = (l1.length : Int)
  · rw [if_pos c3] at H
    have c3b0 : ((l0.length : Int) == (l1.length : Int)) = true := beq_iff_eq.mpr c3
    have c3b1 : ((l0.length : Int) != (l1.length : Int)) = false := bne_eq_false_iff_eq.mpr c3
    have c3b2 : (l0.length == l1.length) = true := by first | simpa using c3 | (simp at c3 ⊢; omega)
    clear c3
    have H' := Aside0.mk H
    clear H
    go_enter Try.func25, Try.ntmps25
    go_wp2
    repeat (go_quiet (fail); try go_wp2)
    go_loopg [5] k (fun kq v5 w' => ∃ (x5_1 : Int), v5 = .int .i64 x5_1 ∧ Aside0 (hutchref06_Same.l0 kq l0 l1 x5_1 = some r) ∧ Aside0 (kq ≤ k) ∧ Drawn0 w w')
    case atStart => exact ⟨(0), (by first | rfl | (simp; done) | (simp [*]; done)), H', ⟨Nat.le_refl _⟩, by repeat (first | exact Drawn0.refl _ | apply Drawn0.step)⟩
    case round =>
      clear H'
      try clear c1
      try clear c2
      try clear p2
      try clear c3
      try clear c3b0
      try clear c3b1
      try clear c3b2
      obtain ⟨x5_1, rfl, HA, HK1, ⟨m1, rfl⟩⟩ := hrel
      cases gk with
      | zero => exact absurd HA.out (by simp [hutchref06_Same.l0])
      | succ k1 =>
        have H := HA.out
        clear HA
        simp only [hutchref06_Same.l0] at H
        by_cases c4 : x5_1 < (l0.length : Int)
        · rw [if_pos c4] at H
          have c4b0 : decide (x5_1 < (l0.length : Int)) = true := decide_eq_true c4
          clear c4
          by_cases c5 : 0 ≤ x5_1
          · rw [if_pos c5] at H
            have c5b0 : decide (0 ≤ x5_1) = true := decide_eq_true c5
            clear c5
            by_cases c6 : x5_1 < (l1.length : Int)
            · rw [if_pos c6] at H
              have c6b0 : decide (x5_1 < (l1.length : Int)) = true := decide_eq_true c6
              clear c6
              by_cases c7 : (rd l0 x5_1) = (rd l1 x5_1)
              · rw [if_pos c7] at H
                have c7b0 : ((rd l0 x5_1) == (rd l1 x5_1)) = true := beq_iff_eq.mpr c7
                have c7b1 : ((rd l0 x5_1) != (rd l1 x5_1)) = false := bne_eq_false_iff_eq.mpr c7
                clear c7
                have H' := Aside0.mk H
                clear H
                have p101 : 0 ≤ (x5_1 : Int) := of_decide_eq_true (by first | (with_reducible assumption) | assumption)
                have q101 : x5_1 < (l0.length : Int) := of_decide_eq_true (by first | (with_reducible assumption) | assumption)
                obtain ⟨ad101, e101, hx101_0⟩ := Kd.at_int HR0.out x5_1 p101 q101
                cases e101
                replace p101 := eq_true p101
                replace q101 := eq_true q101
                have p102 : 0 ≤ (x5_1 : Int) := of_decide_eq_true (by first | (with_reducible assumption) | assumption)
                have q102 : x5_1 < (l1.length : Int) := of_decide_eq_true (by first | (with_reducible assumption) | assumption)
                obtain ⟨ad102, e102, hx102_0⟩ := Kd.at_int HR1.out x5_1 p102 q102
                cases e102
                replace p102 := eq_true p102
                replace q102 := eq_true q102
                go_wp2
                repeat (go_quiet (fail); try go_wp2)
                go_roundg k1
                case measure => have := HK1.out; omega
                case rel => exact ⟨(wrap64 (x5_1 + 1)), (by first | rfl | (simp; done) | (simp [*]; done)), H', ⟨by have := HK1.out; omega⟩, by repeat (first | exact Drawn0.refl _ | apply Drawn0.step)⟩
              · rw [if_neg c7] at H
                have c7b0 : ((rd l0 x5_1) == (rd l1 x5_1)) = false := beq_eq_false_iff_ne.mpr c7
                have c7b1 : ((rd l0 x5_1) != (rd l1 x5_1)) = true := bne_iff_ne.mpr c7
                obtain rfl := Option.some.inj H
                have p101 : 0 ≤ (x5_1 : Int) := of_decide_eq_true (by first | (with_reducible assumption) | assumption)
                have q101 : x5_1 < (l0.length : Int) := of_decide_eq_true (by first | (with_reducible assumption) | assumption)
                obtain ⟨ad101, e101, hx101_0⟩ := Kd.at_int HR0.out x5_1 p101 q101
                cases e101
                replace p101 := eq_true p101
                replace q101 := eq_true q101
                have p102 : 0 ≤ (x5_1 : Int) := of_decide_eq_true (by first | (with_reducible assumption) | assumption)
                have q102 : x5_1 < (l1.length : Int) := of_decide_eq_true (by first | (with_reducible assumption) | assumption)
                obtain ⟨ad102, e102, hx102_0⟩ := Kd.at_int HR1.out x5_1 p102 q102
                cases e102
                replace p102 := eq_true p102
                replace q102 := eq_true q102
                go_wp2
                repeat (go_quiet (fail); try go_wp2)
                go_ret
                exact ⟨by first | rfl | (simp; done) | (simp [*]; done), by repeat (first | exact Drawn0.refl _ | apply Drawn0.step)⟩
            · rw [if_neg c6] at H
              exact absurd H (by simp)
          · rw [if_neg c5] at H
            exact absurd H (by simp)
        · rw [if_neg c4] at H
          have c4b0 : decide (x5_1 < (l0.length : Int)) = false := decide_eq_false c4
          clear c4
          obtain rfl := Option.some.inj H
          go_wp2
          repeat (go_quiet (fail); try go_wp2)
          go_ret
          exact ⟨by first | rfl | (simp; done) | (simp [*]; done), by repeat (first | exact Drawn0.refl _ | apply Drawn0.step)⟩
  · rw [if_neg c3] at H
    have c3b0 : ((l0.length : Int) == (l1.length : Int)) = false := beq_eq_false_iff_ne.mpr c3
    have c3b1 : ((l0.length : Int) != (l1.length : Int)) = true := bne_iff_ne.mpr c3
    have c3b2 : (l0.length == l1.length) = false := by first | simpa using c3 | (simp at c3 ⊢; omega)
    obtain rfl := Option.some.inj H
    go_enter Try.func25, Try.ntmps25
    go_wp2
    repeat (go_quiet (fail); try go_wp2)
    go_ret
    exact ⟨by first | rfl | (simp; done) | (simp [*]; done), by repeat (first | exact Drawn0.refl _ | apply Drawn0.step)⟩


/-! ### reuse_Last: function 118 -/
-- by hand
/-- The last place of a key among some, if it is there. -/
def lastIn (l : List Int) (x : Int) : Option Int := (l.zipIdx.foldl (fun a p => if p.1 = x then some (p.2 : Int) else a) none)
theorem lastIn_nil (x : Int) : lastIn [] x = none := rfl
theorem lastIn_snoc (l : List Int) (y x : Int) : lastIn (l ++ [y]) x = if x = y then some (l.length : Int) else lastIn l x := by
  unfold lastIn
  rw [List.zipIdx_append, List.foldl_append]
  simp only [List.zipIdx_cons, List.zipIdx_nil, List.foldl_cons, List.foldl_nil, Nat.zero_add]
  by_cases h : y = x
  · rw [if_pos h, if_pos h.symm]
  · rw [if_neg h, if_neg (fun e => h e.symm)]
/-- Each place's last one. -/
def lastOf (l : List Int) : List Int := (List.range l.length).map fun i => (lastIn (l.take i) (l.getD i 0)).getD (-1)
theorem lastOf_length (l : List Int) : (lastOf l).length = l.length := by simp [lastOf]
def reuse_Last.f (l0 : List Int) : Option (List Int) := if l0.length > 4096 then some [] else if (∀ x ∈ l0, (Lit.int .u64 x).wf = true) then some (lastOf l0) else none
theorem wf_small (x : Int) (h0 : 0 ≤ x) (h1 : x < 9223372036854775808) : (Lit.int .i64 x).wf = true := by
  have e1 : IntKind.i64.min = -9223372036854775808 := by decide
  have e2 : IntKind.i64.max = 9223372036854775807 := by decide
  simp only [Lit.wf, e1, e2, Bool.and_eq_true, decide_eq_true_eq]; omega
theorem lastIn_range (d : Nat) : ∀ (l : List Int), l.length = d → ∀ (x y : Int), lastIn l x = some y → 0 ≤ y ∧ y < l.length := by
  induction d with
  | zero => intro l hl x y h; obtain rfl := List.eq_nil_of_length_eq_zero hl; cases h
  | succ d ih =>
    intro l hl x y h
    have hne : l ≠ [] := by intro e; rw [e] at hl; simp at hl
    rw [← List.dropLast_concat_getLast hne] at h
    rw [lastIn_snoc] at h
    have hdl : l.dropLast.length = d := by simp; omega
    split at h
    · injection h with h; omega
    · have := ih _ hdl x y h; omega
theorem set_last (l : List Int) (acc : List Int) (k : Nat) (v : Int) (hk : k < l.length) (hacc : acc = (lastOf l).take k ++ List.replicate (l.length - k) 0) (hv : v = (lastIn (l.take k) (l.getD k 0)).getD (-1)) :
    acc.set k v = (lastOf l).take (k + 1) ++ List.replicate (l.length - (k + 1)) 0 := by
  have h1 : ((lastOf l).take k).length = k := by rw [List.length_take, lastOf_length]; omega
  rw [hacc, List.set_append_right _ _ (by omega), h1, Nat.sub_self]
  have e : l.length - k = (l.length - (k + 1)) + 1 := by omega
  rw [e, List.replicate_succ, List.set_cons_zero, List.take_succ_eq_append_getElem (by rw [lastOf_length]; exact hk), List.append_assoc]
  congr 1
  rw [hv]
  simp [lastOf]
set_option maxHeartbeats 800000 in
set_option maxRecDepth 100000 in
theorem reuse_Last.calls (A0 : Option Addr) (c0 : Nat) (l0 : List Int) (r : List Int) (w : World) (hr0 : Kd.C (Kd.int .u64) w A0 l0.length l0) (hc0 : l0.length ≤ c0) (h : reuse_Last.f l0 = some r) :
    Calls Try.prog 118 #[.slice A0 l0.length c0] w fun e w' => ∃ v0_ : Value, e = .returned (v0_) ∧ Kd.R (Kd.int .i64) 3 w' w.heap.size (fun _ => True) v0_ r ∧ Below w.heap.size w w' := by
  unfold reuse_Last.f at h
  by_cases hh : l0.length > 4096
  · rw [if_pos hh] at h
    obtain rfl := Option.some.inj h
    have hm := hr0.2.1
    have n1 : decide ((4096 : Int) < (l0.length : Int)) = true := decide_eq_true (by omega)
    have n2 : decide (4096 < l0.length) = true := decide_eq_true (by omega)
    clear h
    go_enter Try.func118, Try.ntmps118
    go_wp2
    go_ret
    exact ⟨_, rfl, Kd.R_nil _ _ _ _ _, Below.refl _ _⟩
  rw [if_neg hh] at h
  by_cases hw : ∀ x ∈ l0, (Lit.int .u64 x).wf = true
  · rw [if_pos hw] at h
    obtain rfl := Option.some.inj h
    clear h
    have n1 : decide ((4096 : Int) < (l0.length : Int)) = false := decide_eq_false (by omega)
    have n2 : decide (4096 < l0.length) = false := decide_eq_false (by omega)
    obtain ⟨n, hn⟩ : ∃ n, n = l0.length := ⟨_, rfl⟩
    have HN := Aside0.mk hn
    rw [← hn] at hr0 hc0 n1 n2 hh ⊢
    have HW := Aside0.mk hw
    have HR0 := Aside0.mk hr0
    clear hw hr0 hn
    have hmk := print_make (P := Try.prog) 72 3 .i64 8 Try.underlying72 info3 (by decide) n (by omega)
    have hmm := @run_makeMap Try.prog
    have hz : ∀ w : World, (zeroValue 3).run Try.prog w = .ok (.int .i64 0) w := fun w => by kernel_rfl
    have HZ := Aside0.mk hz
    clear hz
    go_enter Try.func118, Try.ntmps118
    go_wp2
    have hmd := OwnsU.made Try.prog 60 3 .u64 w
    have HM0 := Aside0.mk (OwnsU.kept (w' := (w.alloc (.map #[] 0)).alloc (.cells (madeCells #[.int .i64 0] n) 3)) hmd (Below.heap_alloc _ _ _ hmd.lt))
    clear hmd
    have hO0 : Kd.R (Kd.int .i64) 3 ((w.alloc (.map #[] 0)).alloc (.cells (madeCells #[.int .i64 0] n) 3)) w.heap.size (fun _ => True) (.slice (some ⟨w.heap.size + 1, 0, none⟩) n n) (List.replicate n 0) := by
      have h := own_made (w.alloc (.map #[] 0)) w.heap.size 3 .i64 n (by simp) (by omega)
      have hs : (w.alloc (.map #[] 0)).heap.size = w.heap.size + 1 := by simp
      rw [hs] at h
      exact Kd.R_of_own (by rw [List.length_replicate]; exact h) (fun _ _ => trivial)
    have HO0 := Aside0.mk hO0
    clear hO0
    have HB0 := Aside0.mk (below_alloc (below_alloc (Below.refl w.heap.size w) (.map #[] 0)) (.cells (madeCells #[.int .i64 0] n) 3))
    go_loopw [18] (fun v18 wr => ∃ k : Nat, v18 = .int .i64 k ∧ k ≤ n ∧ Aside0 (OwnsU Try.prog 60 3 .u64 wr w.heap.size k (lastIn (l0.take k))) ∧ Aside0 (∃ acc, acc = (lastOf l0).take k ++ List.replicate (n - k) 0 ∧ Kd.R (Kd.int .i64) 3 wr w.heap.size (fun _ => True) (.slice (some ⟨w.heap.size + 1, 0, none⟩) n n) acc) ∧ Aside0 (Below w.heap.size w wr)) (fun v18 _ => n - (intOf v18).toNat)
    case atStart => exact ⟨0, rfl, Nat.zero_le _, HM0, ⟨_, by simp, HO0.out⟩, HB0⟩
    case round =>
      clear HM0 HO0 HB0
      obtain ⟨k, rfl, hk, HM, HO, HB⟩ := hrel
      by_cases hlt : k < n
      · obtain ⟨acc, hacc, hO⟩ := HO.out
        clear HO
        have hal : acc.length = n := by rw [hacc, List.length_append, List.length_take, lastOf_length, ← HN.out, List.length_replicate]; omega
        have p1 : (0 : Int) ≤ (k : Int) := by omega
        have q1 : (k : Int) < (n : Int) := by omega
        obtain ⟨ad, e1, hx⟩ := Kd.at_int HR0.out (k : Int) p1 q1
        cases e1
        replace hx := (HB.out.cell (World.block_lt_of_cell? w _ hx)).trans hx
        rw [Int.toNat_natCast] at hx
        obtain ⟨x, hxd⟩ : ∃ x, x = rd l0 (k : Int) := ⟨_, rfl⟩
        rw [← hxd] at hx
        have hxd2 : x = l0.getD k 0 := by rw [hxd]; simp [rd]
        have hwx : (Lit.int .u64 x).wf = true := by
          refine HW.out x ?_
          rw [hxd2, List.getD_eq_getElem?_getD, List.getElem?_eq_getElem (by rw [← HN.out]; exact hlt)]
          exact List.getElem_mem _
        have HXD := Aside0.mk hxd2
        have HWX := Aside0.mk hwx
        clear hxd hxd2 hwx
        have ho := Kd.own_of_R hO
        rw [hal] at ho
        obtain ⟨hc1, hf1⟩ := own_at_of (d := (0 : Int)) ho (k : Int) p1 q1
        rw [Int.toNat_natCast] at hc1 hf1
        clear ho
        have p2 := eq_true p1
        have q2 := eq_true q1
        have hput : ∀ (W : World) (xs : List Int) (v : Int), Kd.R (Kd.int .i64) 3 W w.heap.size (fun _ => True) (.slice (some ⟨w.heap.size + 1, 0, none⟩) n n) xs → Kd.R (Kd.int .i64) 3 (W.setCell ⟨w.heap.size + 1, k, none⟩ (.int .i64 v)) w.heap.size (fun _ => True) (.slice (some ⟨w.heap.size + 1, 0, none⟩) n n) (xs.set k v) := fun W xs v h => by
          have := Kd.R_putn h (k : Int) v
          rwa [Int.toNat_natCast] at this
        have HP := Aside0.mk hput
        have HO := Aside0.mk hO
        have HA := Aside0.mk hacc
        clear hput hO hacc
        have hsn : ∀ v, v = (lastIn (l0.take k) x).getD (-1) → acc.set k v = (lastOf l0).take (k + 1) ++ List.replicate (n - (k + 1)) 0 := fun v hv => by
          rw [HN.out]
          exact set_last l0 acc k v (by rw [← HN.out]; exact hlt) (by rw [← HN.out]; exact HA.out) (by rw [hv, HXD.out])
        have HS := Aside0.mk hsn
        have hmn : (fun y => if y = x then some ((k : Nat) : Int) else lastIn (l0.take k) y) = lastIn (l0.take (k + 1)) := by
          funext y
          rw [List.take_succ_eq_append_getElem (by rw [← HN.out]; exact hlt), lastIn_snoc, List.length_take, Nat.min_eq_left (by rw [← HN.out]; omega)]
          have : l0[k]'(by rw [← HN.out]; exact hlt) = x := by rw [HXD.out, List.getD_eq_getElem?_getD, List.getElem?_eq_getElem (by rw [← HN.out]; exact hlt)]; rfl
          rw [this]
        have HMN := Aside0.mk hmn
        clear hsn hmn
        have HBS : Aside0 (w.heap.size ≤ w.heap.size + 1) := ⟨by omega⟩
        obtain ⟨y, hy⟩ : ∃ y, y = lastIn (l0.take k) x := ⟨_, rfl⟩
        have HY := Aside0.mk hy
        have hyr : ∀ z, y = some z → 0 ≤ z ∧ z < 4096 := fun z hz => by
          have := lastIn_range _ (l0.take k) rfl x z (by rw [← HY.out]; exact hz)
          rw [List.length_take] at this
          have := HN.out
          omega
        clear hy
        cases y with
        | none =>
          clear hyr
          go_wp2_with (first
            | (at_lookup; refine OwnsU.look_ok (m := lastIn (l0.take k)) rfl (.tmp 27) (.tmp 28) 87 rfl Try.underlying60 Try.underlying87 Try.underlying3 (HZ.out _) (b := w.heap.size) (n := k) (by repeat (first | exact HM.out | refine OwnsU.setCell ?_ (Nat.ne_of_lt (Nat.lt_succ_self _)) _)) rfl x rfl HWX.out ?_; rw [← HY.out]; simp only [Option.getD_none, Option.isSome_none])
            | (at_mapUpdate; refine OwnsU.update (m := lastIn (l0.take k)) rfl (.tmp 37) (.tmp 38) (.tmp 39) 87 rfl Try.underlying60 Try.underlying87 Try.underlying3 (b := w.heap.size) (n := k) (by unfold maxLen; omega) (by repeat (first | exact HM.out | refine OwnsU.setCell ?_ (Nat.ne_of_lt (Nat.lt_succ_self _)) _)) rfl x (k : Int) rfl rfl HWX.out (wf_small _ (by omega) (by omega)) ?_; intro w3 HM3 hgr3))
          rw [HMN.out] at HM3
          have HM3' := Aside0.mk HM3
          have hO3 := Kd.R_of_own (enc := Value.int .i64) (h1 := fun _ => rfl) (ok := fun _ => True) (own_other (Kd.own_of_R (HP.out _ _ _ HO.out)) hgr3 (.inr (by simp [Value.ownBlock]))) (fun _ _ => trivial)
          have HBW := Aside0.mk (Below.setCell HB.out (p := ⟨w.heap.size + 1, k, none⟩) HBS.out (.int .i64 (-1)))
          have hbd : Below w.heap.size w w3 := HBW.out.grown hgr3 HBW.out.size (fun j hj => by cases hj; exact Nat.le_refl _)
          have HBD := Aside0.mk hbd
          have hac : Aside0 (∃ acc, acc = (lastOf l0).take (k + 1) ++ List.replicate (n - (k + 1)) 0 ∧ Kd.R (Kd.int .i64) 3 w3 w.heap.size (fun _ => True) (.slice (some ⟨w.heap.size + 1, 0, none⟩) n n) acc) := ⟨_, HS.out (-1) (by rw [← HY.out]; rfl), hO3⟩
          clear hbd hO3 hgr3 HM3
          go_wp2
          go_roundw
          case rel => exact ⟨k + 1, by go_num, by omega, HM3', hac, HBD⟩
          case measure => simp [intOf]; omega
        | some z =>
          obtain ⟨z0, z1⟩ := hyr z rfl
          clear hyr
          go_wp2_with (first
            | (at_lookup; refine OwnsU.look_ok (m := lastIn (l0.take k)) rfl (.tmp 27) (.tmp 28) 87 rfl Try.underlying60 Try.underlying87 Try.underlying3 (HZ.out _) (b := w.heap.size) (n := k) (by repeat (first | exact HM.out | refine OwnsU.setCell ?_ (Nat.ne_of_lt (Nat.lt_succ_self _)) _)) rfl x rfl HWX.out ?_; rw [← HY.out]; simp only [Option.getD_some, Option.isSome_some])
            | (at_mapUpdate; refine OwnsU.update (m := lastIn (l0.take k)) rfl (.tmp 37) (.tmp 38) (.tmp 39) 87 rfl Try.underlying60 Try.underlying87 Try.underlying3 (b := w.heap.size) (n := k) (by unfold maxLen; omega) (by repeat (first | exact HM.out | refine OwnsU.setCell ?_ (Nat.ne_of_lt (Nat.lt_succ_self _)) _)) rfl x (k : Int) rfl rfl HWX.out (wf_small _ (by omega) (by omega)) ?_; intro w3 HM3 hgr3))
          rw [HMN.out] at HM3
          have HM3' := Aside0.mk HM3
          have hO3 := Kd.R_of_own (enc := Value.int .i64) (h1 := fun _ => rfl) (ok := fun _ => True) (own_other (Kd.own_of_R (HP.out _ _ _ (HP.out _ _ _ HO.out))) hgr3 (.inr (by simp [Value.ownBlock]))) (fun _ _ => trivial)
          have HBW := Aside0.mk (Below.setCell (Below.setCell HB.out (p := ⟨w.heap.size + 1, k, none⟩) HBS.out (.int .i64 (-1))) (p := ⟨w.heap.size + 1, k, none⟩) HBS.out (.int .i64 z))
          have hbd : Below w.heap.size w w3 := HBW.out.grown hgr3 HBW.out.size (fun j hj => by cases hj; exact Nat.le_refl _)
          have HBD := Aside0.mk hbd
          have hac : Aside0 (∃ acc, acc = (lastOf l0).take (k + 1) ++ List.replicate (n - (k + 1)) 0 ∧ Kd.R (Kd.int .i64) 3 w3 w.heap.size (fun _ => True) (.slice (some ⟨w.heap.size + 1, 0, none⟩) n n) acc) := ⟨_, by rw [List.set_set]; exact HS.out z (by rw [← HY.out]; rfl), hO3⟩
          clear hbd hO3 hgr3 HM3
          go_wp2
          go_roundw
          case rel => exact ⟨k + 1, by go_num, by omega, HM3', hac, HBD⟩
          case measure => simp [intOf]; omega
      · have hkn : k = n := by omega
        go_wp2
        go_ret
        obtain ⟨acc, hacc, hO⟩ := HO.out
        refine ⟨_, rfl, ?_, HB.out⟩
        have : acc = lastOf l0 := by rw [hacc, hkn, Nat.sub_self, List.replicate_zero, List.append_nil]; exact List.take_of_length_le (by rw [lastOf_length, ← HN.out]; exact Nat.le_refl _)
        rw [← this]
        exact hO
  · rw [if_neg hw] at h
    exact absurd h (by simp)


/-! ### reuse_Next: function 100 -/
-- by hand
/-- Each place's next one, as far as one has gone. -/
def nextTo (l : List Int) : Nat → List Int
  | 0 => List.replicate l.length (l.length : Int)
  | k + 1 => if rd (lastOf l) (k : Int) = -1 then nextTo l k else (nextTo l k).set (rd (lastOf l) (k : Int)).toNat (k : Int)
theorem nextTo_len (l : List Int) : ∀ k, (nextTo l k).length = l.length
  | 0 => by simp [nextTo]
  | k + 1 => by
    unfold nextTo
    have := nextTo_len l k
    split
    · exact this
    · rw [List.length_set]; exact this
def nextOf (l : List Int) : List Int := nextTo l l.length
theorem lastOf_at (l : List Int) (k : Nat) (h : k < l.length) : rd (lastOf l) (k : Int) = (lastIn (l.take k) (l.getD k 0)).getD (-1) := by
  have h' : k < (lastOf l).length := by rw [lastOf_length]; exact h
  have e : rd (lastOf l) (k : Int) = (lastOf l)[k] := by simp [rd, List.getD_eq_getElem?_getD, List.getElem?_eq_getElem h']
  rw [e]
  simp [lastOf]
theorem lastOf_range (l : List Int) (k : Nat) (h : k < l.length) : rd (lastOf l) (k : Int) = -1 ∨ (0 ≤ rd (lastOf l) (k : Int) ∧ rd (lastOf l) (k : Int) < k) := by
  rw [lastOf_at l k h]
  cases hy : lastIn (l.take k) (l.getD k 0) with
  | none => exact .inl rfl
  | some y =>
    have := lastIn_range _ (l.take k) rfl _ y hy
    rw [List.length_take] at this
    simp only [Option.getD_some]
    exact .inr (by omega)
def reuse_Next.f (l0 : List Int) : Option (List Int) := if l0.length ≤ 4096 ∧ (∀ x ∈ l0, (Lit.int .u64 x).wf = true) then some (nextOf l0) else none
set_option maxRecDepth 100000 in
set_option maxHeartbeats 3200000 in
theorem reuse_Next.calls (A0 : Option Addr) (c0 : Nat) (l0 : List Int) (r : List Int) (w : World) (hr0 : Kd.C (Kd.int .u64) w A0 l0.length l0) (hc0 : l0.length ≤ c0) (h : reuse_Next.f l0 = some r) :
    Calls Try.prog 100 #[.slice A0 l0.length c0] w fun e w' => ∃ v0_ : Value, e = .returned (v0_) ∧ Kd.R (Kd.int .i64) 3 w' w.heap.size (fun _ => True) v0_ r ∧ Below w.heap.size w w' := by
  unfold reuse_Next.f at h
  by_cases hh : l0.length ≤ 4096 ∧ (∀ x ∈ l0, (Lit.int .u64 x).wf = true)
  · rw [if_pos hh] at h
    obtain rfl := Option.some.inj h
    clear h
    obtain ⟨hlen, hw⟩ := hh
    have hla : reuse_Last.f l0 = some (lastOf l0) := by unfold reuse_Last.f; rw [if_neg (by omega), if_pos hw]
    obtain ⟨n, hn⟩ : ∃ n, n = l0.length := ⟨_, rfl⟩
    obtain ⟨la, hlad⟩ : ∃ la, la = lastOf l0 := ⟨_, rfl⟩
    have hll : la.length = n := by rw [hlad, lastOf_length, hn]
    have hlr : ∀ k : Nat, k < n → rd la (k : Int) = -1 ∨ (0 ≤ rd la (k : Int) ∧ rd la (k : Int) < k) := fun k hk => by rw [hlad]; exact lastOf_range l0 k (by omega)
    have hst : ∀ k : Nat, nextTo l0 (k + 1) = if rd la (k : Int) = -1 then nextTo l0 k else (nextTo l0 k).set (rd la (k : Int)).toNat (k : Int) := fun k => by rw [hlad]; rfl
    have hz : nextTo l0 0 = List.replicate n (n : Int) := by rw [hn]; rfl
    have hfin : nextTo l0 n = nextOf l0 := by rw [hn]; rfl
    have hnl : ∀ k, (nextTo l0 k).length = n := fun k => by rw [nextTo_len, hn]
    rw [← hlad] at hla
    rw [← hfin]
    have HR0 := Aside0.mk hr0
    have HC0 := Aside0.mk hc0
    have HLA := Aside0.mk hla
    have HLL := Aside0.mk hll
    have HLR := Aside0.mk hlr
    have HST := Aside0.mk hst
    have HZ := Aside0.mk hz
    have HNL := Aside0.mk hnl
    have HN := Aside0.mk hn
    rw [← hn] at hlen ⊢
    clear hr0 hc0 hla hll hlr hst hz hnl hlad hw hfin hn
    have hmk := print_make (P := Try.prog) 72 3 .i64 8 Try.underlying72 info3 (by decide) n (by omega)
    go_enter Try.func100, Try.ntmps100
    go_wp2_with (first
      | (go_at_call 118; go_loud (rw [HN.out]; refine (reuse_Last.calls _ _ l0 _ _ HR0.out HC0.out HLA.out).mono ?_; rw [← HN.out]; rintro e w1 ⟨v, rfl, hO, hB⟩; obtain ⟨A, c, hv, hl, hr⟩ := Kd.R_reads hO; subst hv; rw [HLL.out] at hl hr ⊢; have HRL := Aside0.mk hr; have HB1 := Aside0.mk hB; clear hO hB hl hr)))
    have hO0 : Kd.R (Kd.int .i64) 3 (w1.alloc (.cells (madeCells #[.int .i64 0] n) 3)) w1.heap.size (fun _ => True) (.slice (some ⟨w1.heap.size, 0, none⟩) n n) (List.replicate 0 (n : Int) ++ List.replicate (n - 0) 0) := by
      have h := own_made w1 w1.heap.size 3 .i64 n (Nat.le_refl _) (by omega)
      exact Kd.R_of_own (by rw [List.replicate_zero, List.nil_append, Nat.sub_zero, List.length_replicate]; exact h) (fun _ _ => trivial)
    have HO0 := Aside0.mk hO0
    clear hO0
    have HB0 := Aside0.mk (below_alloc (Below.refl w1.heap.size w1) (.cells (madeCells #[.int .i64 0] n) 3))
    go_loopw [15, 5] (fun v15 v5 wr => ∃ k : Nat, v15 = .int .i64 k ∧ k ≤ n ∧ Aside0 (Kd.R (Kd.int .i64) 3 wr w1.heap.size (fun _ => True) (.slice (some ⟨w1.heap.size, 0, none⟩) n n) (List.replicate k (n : Int) ++ List.replicate (n - k) 0)) ∧ Aside0 (Below w1.heap.size w1 wr)) (fun v15 _ _ => n - (intOf v15).toNat)
    case atStart => exact ⟨0, rfl, Nat.zero_le _, HO0, HB0⟩
    case round =>
      clear HO0 HB0
      obtain ⟨k, rfl, hk, HO, HB⟩ := hrel
      by_cases hlt : k < n
      · have p1 : (0 : Int) ≤ (k : Int) := by omega
        have q1 : (k : Int) < (n : Int) := by omega
        have hal : (List.replicate k (n : Int) ++ List.replicate (n - k) 0).length = n := by simp; omega
        have ho := Kd.own_of_R HO.out
        rw [hal] at ho
        obtain ⟨hc1, hf1⟩ := own_at_of (d := (0 : Int)) ho (k : Int) p1 q1
        rw [Int.toNat_natCast] at hc1 hf1
        have hput := Kd.R_putn HO.out (k : Int) (n : Int)
        rw [Int.toNat_natCast] at hput
        have hset : (List.replicate k (n : Int) ++ List.replicate (n - k) 0).set k (n : Int) = List.replicate (k + 1) (n : Int) ++ List.replicate (n - (k + 1)) 0 := by
          rw [List.set_append_right _ _ (by simp), List.length_replicate, Nat.sub_self, show n - k = (n - (k + 1)) + 1 by omega, List.replicate_succ, List.set_cons_zero, List.replicate_succ', List.append_assoc]
          rfl
        rw [hset] at hput
        have HP := Aside0.mk hput
        have HB2 := Aside0.mk (Below.setCell HB.out (p := ⟨w1.heap.size, k, none⟩) (Nat.le_refl _) (.int .i64 n))
        have p2 := eq_true p1
        have q2 := eq_true q1
        clear ho hal hput hset
        go_wp2
        go_roundw
        case rel => exact ⟨k + 1, by go_num, by omega, HP, HB2⟩
        case measure => simp [intOf]; omega
      · have hkn : k = n := by omega
        subst hkn
        rw [Nat.sub_self, List.replicate_zero, List.append_nil, ← HZ.out] at HO
        go_wp2
        go_loopw [26, 6, 7] (fun v26 v6 v7 wq => ∃ j : Nat, v26 = .int .i64 j ∧ j ≤ k ∧ Aside0 (Kd.R (Kd.int .i64) 3 wq w1.heap.size (fun _ => True) (.slice (some ⟨w1.heap.size, 0, none⟩) k k) (nextTo l0 j)) ∧ Aside0 (Below w1.heap.size w1 wq)) (fun v26 _ _ _ => k - (intOf v26).toNat)
        case atStart => exact ⟨0, rfl, Nat.zero_le _, HO, HB⟩
        case round =>
          clear HO HB
          obtain ⟨j, rfl, hj, HO, HB⟩ := hrel
          by_cases hlt2 : j < k
          · have p1 : (0 : Int) ≤ (j : Int) := by omega
            have q1 : (j : Int) < (k : Int) := by omega
            obtain ⟨ad, e1, hx⟩ := Kd.at_int HRL.out (j : Int) p1 q1
            cases e1
            replace hx := pw_cell_below HB.out hx
            rw [Int.toNat_natCast] at hx
            have hlr := HLR.out j hlt2
            have hst := HST.out j
            obtain ⟨y, hy⟩ : ∃ y, y = rd la (j : Int) := ⟨_, rfl⟩
            rw [← hy] at hx hlr hst
            have HST2 := Aside0.mk hst
            clear hy hst
            have p2 := eq_true p1
            have q2 := eq_true q1
            by_cases hm : y = -1
            · have b1 : (y == -1) = true := beq_iff_eq.2 hm
              have b2 : (y != -1) = false := bne_eq_false_iff_eq.2 hm
              have HO2 : Aside0 (Kd.R (Kd.int .i64) 3 wr w1.heap.size (fun _ => True) (.slice (some ⟨w1.heap.size, 0, none⟩) k k) (nextTo l0 (j + 1))) := ⟨by rw [HST2.out, if_pos hm]; exact HO.out⟩
              clear hm hlr
              go_wp2
              go_roundw
              case rel => exact ⟨j + 1, by go_num, by omega, HO2, HB⟩
              case measure => simp [intOf]; omega
            · have b1 : (y == -1) = false := beq_eq_false_iff_ne.2 hm
              have b2 : (y != -1) = true := bne_iff_ne.2 hm
              obtain ⟨hy0, hy1⟩ := hlr.resolve_left hm
              obtain ⟨m, rfl⟩ := Int.eq_ofNat_of_zero_le hy0
              have hmk2 : m < k := by omega
              have p3 : (0 : Int) ≤ (m : Int) := by omega
              have q3 : (m : Int) < (k : Int) := by omega
              have ho := Kd.own_of_R HO.out
              rw [HNL.out] at ho
              obtain ⟨hc1, hf1⟩ := own_at_of (d := (0 : Int)) ho (m : Int) p3 q3
              rw [Int.toNat_natCast] at hc1 hf1
              have hput := Kd.R_putn HO.out (m : Int) (j : Int)
              rw [Int.toNat_natCast] at hput
              have HO2 : Aside0 (Kd.R (Kd.int .i64) 3 (wr.setCell ⟨w1.heap.size, m, none⟩ (.int .i64 j)) w1.heap.size (fun _ => True) (.slice (some ⟨w1.heap.size, 0, none⟩) k k) (nextTo l0 (j + 1))) := ⟨by rw [HST2.out, if_neg hm, Int.toNat_natCast]; exact hput⟩
              have HB2 := Aside0.mk (Below.setCell HB.out (p := ⟨w1.heap.size, m, none⟩) (Nat.le_refl _) (.int .i64 j))
              have p4 := eq_true p3
              have q4 := eq_true q3
              clear ho hput hm hlr hy0 hy1
              go_wp2
              go_roundw
              case rel => exact ⟨j + 1, by go_num, by omega, HO2, HB2⟩
              case measure => simp [intOf]; omega
          · have hjk : j = k := by omega
            subst hjk
            go_wp2
            go_ret
            exact ⟨_, rfl, Kd.R_lower HO.out HB1.out.size, HB1.out.trans (HB.out.mono HB1.out.size)⟩
  · rw [if_neg hh] at h
    exact absurd h (by simp)

-- NOT PRINTED: function 119 (best_held_119)


/-! ### best_run_ask_1: function 120 -/
-- by hand
set_option maxHeartbeats 800000 in
theorem best_ask1.calls (x : S138) (key : Int) (H : Nat) (w : World) (hc : w.cell? ⟨H, 0, none⟩ = some (.int .u64 key)) :
    Calls Try.prog 120 #[.agg #[.int .u64 x.f0, .int .i64 x.f1], .pointer (some ⟨H, 0, none⟩)] w fun e w' => e = .returned (.bool (x.f0 == key)) ∧ Below w.heap.size w w' := by
  have hlt : H < w.heap.size := World.block_lt_of_cell? w _ hc
  have hu138 := Try.underlying138
  go_enter Try.func120, Try.ntmps120
  go_wp2
  go_ret
  exact ⟨rfl, below_alloc (Below.refl _ _) _⟩
/-- Where a key is kept; -1: it is not. -/
def heldAt (l : List S138) (key : Int) : Int := match l.findIdx? (fun h => h.f0 == key) with | some i => ((i : Nat) : Int) | none => -1
theorem rd138_at (l : List S138) (i : Nat) (h : i < l.length) : rd_T138 l (i : Int) = l[i] := by simp [rd_T138, List.getD_eq_getElem?_getD, List.getElem?_eq_getElem h]
theorem heldAt_hit (l : List S138) (key : Int) (j : Nat) (hj : j < l.length) (h0 : ∀ i : Nat, i < j → (rd_T138 l (i : Int)).f0 ≠ key) (h1 : (rd_T138 l (j : Int)).f0 = key) : heldAt l key = j := by
  have : l.findIdx? (fun h => h.f0 == key) = some j := by
    rw [List.findIdx?_eq_some_iff_getElem]
    refine ⟨hj, ?_, fun i hi => ?_⟩
    · rw [rd138_at l j hj] at h1
      simpa using h1
    · have := h0 i hi
      rw [rd138_at l i (by omega)] at this
      simpa using this
  unfold heldAt
  rw [this]
theorem heldAt_miss (l : List S138) (key : Int) (h0 : ∀ i : Nat, i < l.length → (rd_T138 l (i : Int)).f0 ≠ key) : heldAt l key = -1 := by
  have : l.findIdx? (fun h => h.f0 == key) = none := by
    rw [List.findIdx?_eq_none_iff]
    intro x hx
    obtain ⟨i, hi, rfl⟩ := List.getElem_of_mem hx
    have := h0 i hi
    rw [rd138_at l i hi] at this
    simpa using this
  unfold heldAt
  rw [this]
set_option maxRecDepth 100000 in
set_option maxHeartbeats 1600000 in
theorem best_indexFunc.calls (A : Option Addr) (c : Nat) (l : List S138) (key : Int) (H : Nat) (w : World) (hr : Kd.C k138 w A l.length l) (hl : l.length ≤ 1000000) (hc : w.cell? ⟨H, 0, none⟩ = some (.int .u64 key)) :
    Calls Try.prog 119 #[.slice A l.length c, .func (.func 120) #[] #[.pointer (some ⟨H, 0, none⟩)]] w fun e w' => e = .returned (.int .i64 (heldAt l key)) ∧ Below w.heap.size w w' := by
  have HR0 := Aside0.mk hr
  have HC0 := Aside0.mk hc
  have hlt : H < w.heap.size := World.block_lt_of_cell? w _ hc
  have HLT := Aside0.mk hlt
  clear hr hc hlt
  have hu138 := Try.underlying138
  go_enter Try.func119, Try.ntmps119
  go_wp2
  go_loopw [8, 5] (fun v8 v5 wr => ∃ j : Nat, v8 = .int .i64 j ∧ j ≤ l.length ∧ Aside0 (∀ i : Nat, i < j → (rd_T138 l (i : Int)).f0 ≠ key) ∧ Aside0 (Below w.heap.size w wr)) (fun v8 _ _ => l.length - (intOf v8).toNat)
  case atStart => exact ⟨0, rfl, Nat.zero_le _, ⟨fun i hi => absurd hi (by omega)⟩, ⟨Below.refl _ _⟩⟩
  case round =>
    obtain ⟨j, rfl, hj, HN, HB⟩ := hrel
    by_cases hlt : j < l.length
    · have p1 : (0 : Int) ≤ (j : Int) := by omega
      have q1 : (j : Int) < (l.length : Int) := by omega
      obtain ⟨ad, e1, hx0, hx1⟩ := at_T138 HR0.out (j : Int) p1 q1
      cases e1
      replace hx0 := pw_cell_below HB.out hx0
      replace hx1 := pw_cell_below HB.out hx1
      rw [Int.toNat_natCast] at hx0 hx1
      obtain ⟨x, hxd⟩ : ∃ x, x = rd_T138 l (j : Int) := ⟨_, rfl⟩
      rw [← hxd] at hx0 hx1
      have HXD := Aside0.mk hxd
      clear hxd
      have p2 := eq_true p1
      have q2 := eq_true q1
      have hen : ∀ args w, (callFunc 120 args).run Try.prog w = .ok (.enter 120 args) w := fun args w => enters_ Try.func120 (by kernel_rfl) rfl args w
      have HEN := Aside0.mk hen
      clear hen
      by_cases hk : x.f0 = key
      · have b0 : (x.f0 == key) = true := beq_iff_eq.2 hk
        have HHIT := Aside0.mk (heldAt_hit l key j hlt HN.out (by rw [← HXD.out]; exact hk))
        clear hk
        go_wp2_with ((with_reducible refine gate_dst (N := 16) rfl ?_); go_loud (refine goesV_ (some 16) rfl rfl (.tmp 11) #[.agg #[.int .u64 x.f0, .int .i64 x.f1], .pointer (some ⟨H, 0, none⟩)] rfl rfl (by first | (simp only [List.map_toArray, List.map_cons, List.map_nil]; rfl) | (simp [Act.eval])) HEN.out ?_; refine (best_ask1.calls x key H _ (pw_cell_below HB.out HC0.out)).mono ?_; rintro e w' ⟨rfl, hb⟩; refine ⟨_, rfl, ?_⟩; have HB2 := Aside0.mk (HB.out.trans (hb.mono HB.out.size)); clear hb))
        go_ret
        exact ⟨by rw [HHIT.out]; rfl, HB2.out⟩
      · have b0 : (x.f0 == key) = false := beq_eq_false_iff_ne.2 hk
        have HK := Aside0.mk hk
        clear hk
        go_wp2_with ((with_reducible refine gate_dst (N := 16) rfl ?_); go_loud (refine goesV_ (some 16) rfl rfl (.tmp 11) #[.agg #[.int .u64 x.f0, .int .i64 x.f1], .pointer (some ⟨H, 0, none⟩)] rfl rfl (by first | (simp only [List.map_toArray, List.map_cons, List.map_nil]; rfl) | (simp [Act.eval])) HEN.out ?_; refine (best_ask1.calls x key H _ (pw_cell_below HB.out HC0.out)).mono ?_; rintro e w' ⟨rfl, hb⟩; refine ⟨_, rfl, ?_⟩; have HB2 := Aside0.mk (HB.out.trans (hb.mono HB.out.size)); clear hb))
        go_roundw
        case rel => exact ⟨j + 1, by go_num, by omega, ⟨fun i hi => by
          by_cases hij : i = j
          · rw [hij, ← HXD.out]; exact HK.out
          · exact HN.out i (by omega)⟩, HB2⟩
        case measure => simp [intOf]; omega
    · have hjn : j = l.length := by omega
      have HM := Aside0.mk (heldAt_miss l key (by rw [← hjn]; exact HN.out))
      clear hjn
      go_wp2
      go_ret
      exact ⟨by rw [HM.out]; rfl, HB.out⟩


/-! ### best_run_worst: function 121 -/
-- by hand
/-- A run at block g: what is kept, what went, the trace's length; its rows were made from base on. -/
structure RunS (W : World) (base g : Nat) (v0 v1 : Value) (f0 : List S138) (f1 : List Int) (e : Int) : Prop where
  blk : W.heap[g]? = some (.cells #[v0, v1, .int .i64 e] 135 (0, 0))
  ge : base ≤ g
  k : Kd.R k138 138 W base (fun _ => True) v0 f0
  n : Kd.R (Kd.int .u64) 60 W base (fun _ => True) v1 f1
theorem RunS.below {W W1 : World} {base g : Nat} {v0 v1 : Value} {f0 : List S138} {f1 : List Int} {e : Int} (h : RunS W base g v0 v1 f0 f1 e) (hb : Below W.heap.size W W1) : RunS W1 base g v0 v1 f0 f1 e :=
  ⟨(hb.block g (blk_lt h.blk)).trans h.blk, h.ge, Kd.R_below h.k hb, Kd.R_below h.n hb⟩
theorem RunS.c0 {W : World} {base g : Nat} {v0 v1 : Value} {f0 : List S138} {f1 : List Int} {e : Int} (h : RunS W base g v0 v1 f0 f1 e) : W.cell? ⟨g, 0, none⟩ = some v0 := (blk_cell h.blk 0).trans rfl
theorem RunS.c1 {W : World} {base g : Nat} {v0 v1 : Value} {f0 : List S138} {f1 : List Int} {e : Int} (h : RunS W base g v0 v1 f0 f1 e) : W.cell? ⟨g, 1, none⟩ = some v1 := (blk_cell h.blk 1).trans rfl
theorem RunS.c2 {W : World} {base g : Nat} {v0 v1 : Value} {f0 : List S138} {f1 : List Int} {e : Int} (h : RunS W base g v0 v1 f0 f1 e) : W.cell? ⟨g, 2, none⟩ = some (.int .i64 e) := (blk_cell h.blk 2).trans rfl
/-- What turns at most blocks of a run. -/
def FrT (w w' : World) : Prop := w.heap.size ≤ w'.heap.size ∧ ∀ (i : Nat) (cs : Array Value) (t : Nat) (fr : Nat × Nat), w.heap[i]? = some (.cells cs t fr) → t ≠ 135 → t ≠ 138 → t ≠ 60 → w'.heap[i]? = some (.cells cs t fr)
theorem FrT.refl (w : World) : FrT w w := ⟨Nat.le_refl _, fun _ _ _ _ h _ _ _ => h⟩
theorem FrT.trans {w w1 w2 : World} (h : FrT w w1) (k : FrT w1 w2) : FrT w w2 := ⟨Nat.le_trans h.1 k.1, fun i cs t fr hi h1 h2 h3 => k.2 i cs t fr (h.2 i cs t fr hi h1 h2 h3) h1 h2 h3⟩
theorem FrT.below {w w1 : World} (h : Below w.heap.size w w1) : FrT w w1 := ⟨h.size, fun i cs t fr hi _ _ _ => (h.block i (Array.getElem?_eq_some_iff.1 hi).1).trans hi⟩
theorem FrT.grown {α : Type} {d : Kd α} {e' base : Nat} {ok : Nat → Prop} {v : Value} {xs : List α} {w w1 : World} (hr : d.R e' w base ok v xs) (h : w.grownBy w1 v.ownBlock) (he : e' = 138 ∨ e' = 60) : FrT w w1 := by
  refine ⟨h.size, fun i cs t fr hi h1 h2 h3 => (h.block i (Array.getElem?_eq_some_iff.1 hi).1 fun hv => ?_).trans hi⟩
  obtain ⟨inner, ho⟩ := Kd.R_own hr
  obtain ⟨cells, hc⟩ := own_typed ho i hv.symm
  rw [hi] at hc
  injection hc with hc
  injection hc with _ ht
  rcases he with rfl | rfl
  · exact h2 ht
  · exact h3 ht
theorem FrT.set {w : World} {g : Nat} {cs : Array Value} (hb : w.heap[g]? = some (.cells cs 135 (0, 0))) (j : Nat) (u : Value) : FrT w (w.setCell ⟨g, j, none⟩ u) := by
  refine ⟨by simp [World.setCell], fun i cs' t fr hi h1 _ _ => ?_⟩
  refine (Below.heap_setCell w ⟨g, j, none⟩ u i ?_).trans hi
  rintro rfl
  rw [hb] at hi
  injection hi with hi
  injection hi with _ ht
  exact h1 ht.symm
section
variable {W W1 : World} {base g : Nat} {v0 v1 v : Value} {f0 f0' : List S138} {f1 f1' : List Int} {e : Int}
theorem RunS.blkK (h : RunS W base g v0 v1 f0 f1 e) (hg : W.grownBy W1 v0.ownBlock) : W1.heap[g]? = some (.cells #[v0, v1, .int .i64 e] 135 (0, 0)) := blk_grown h.blk hg (Kd.R_ne h.k h.blk (by decide))
theorem RunS.blkN (h : RunS W base g v0 v1 f0 f1 e) (hg : W.grownBy W1 v1.ownBlock) : W1.heap[g]? = some (.cells #[v0, v1, .int .i64 e] 135 (0, 0)) := blk_grown h.blk hg (Kd.R_ne h.n h.blk (by decide))
theorem RunS.rowN (h : RunS W base g v0 v1 f0 f1 e) (hg : W.grownBy W1 v0.ownBlock) : Kd.R (Kd.int .u64) 60 W1 base (fun _ => True) v1 f1 := by
  refine Kd.R_mono (Kd.R_step (Kd.R_bound h.n) (fun k hk hlt => hg.block k hlt fun hv => ?_)) (fun _ _ => trivial)
  obtain ⟨inner, ho⟩ := Kd.R_own h.k
  obtain ⟨cells, hc⟩ := own_typed ho k hv.symm
  obtain ⟨_, _, _, q, hq, cells', hc'⟩ := hk
  rw [hc] at hc'
  injection hc' with hc'
  injection hc' with _ ht
  rw [← ht] at hq
  exact absurd hq (by decide)
theorem RunS.rowK (h : RunS W base g v0 v1 f0 f1 e) (hg : W.grownBy W1 v1.ownBlock) : Kd.R k138 138 W1 base (fun _ => True) v0 f0 := by
  refine Kd.R_mono (Kd.R_step (Kd.R_bound h.k) (fun k hk hlt => hg.block k hlt fun hv => ?_)) (fun _ _ => trivial)
  obtain ⟨inner, ho⟩ := Kd.R_own h.n
  obtain ⟨cells, hc⟩ := own_typed ho k hv.symm
  obtain ⟨_, _, _, q, hq, cells', hc'⟩ := hk
  rw [hc] at hc'
  injection hc' with hc'
  injection hc' with _ ht
  rw [← ht] at hq
  exact absurd hq (by decide)
/-- What is kept has turned. -/
theorem RunS.turn0 (h : RunS W base g v0 v1 f0 f1 e) (hg : W.grownBy W1 v0.ownBlock) (hk : Kd.R k138 138 W1 base (fun _ => True) v f0') : RunS (W1.setCell ⟨g, 0, none⟩ v) base g v v1 f0' f1 e := by
  have hb := h.blkK hg
  refine ⟨by simpa using blk_set hb 0 v, h.ge, Kd.R_set hk hb (by decide) 0 v, Kd.R_set (h.rowN hg) hb (by decide) 0 v⟩
theorem RunS.turn1 (h : RunS W base g v0 v1 f0 f1 e) (hg : W.grownBy W1 v1.ownBlock) (hn : Kd.R (Kd.int .u64) 60 W1 base (fun _ => True) v f1') : RunS (W1.setCell ⟨g, 1, none⟩ v) base g v0 v f0 f1' e := by
  have hb := h.blkN hg
  refine ⟨by simpa using blk_set hb 1 v, h.ge, Kd.R_set (h.rowK hg) hb (by decide) 1 v, Kd.R_set hn hb (by decide) 1 v⟩
theorem RunS.same0 (h : RunS W base g v0 v1 f0 f1 e) (hg : W.grownBy W1 v0.ownBlock) (hk : Kd.R k138 138 W1 base (fun _ => True) v0 f0') : RunS W1 base g v0 v1 f0' f1 e := ⟨h.blkK hg, h.ge, hk, h.rowN hg⟩
end
/-- One of those that are kept is written over. -/
theorem held_put {W : World} {base b n cap : Nat} {f0 : List S138} (h : Kd.R k138 138 W base (fun _ => True) (.slice (some ⟨b, 0, none⟩) n cap) f0) (m : Nat) (hm : m < f0.length) (x : S138) :
    Kd.R k138 138 ((W.setCell ⟨b, m * 2, none⟩ (.int .u64 x.f0)).setCell ⟨b, m * 2 + 1, none⟩ (.int .i64 x.f1)) base (fun _ => True) (.slice (some ⟨b, 0, none⟩) n cap) (f0.set m x) ∧ W.grownBy ((W.setCell ⟨b, m * 2, none⟩ (.int .u64 x.f0)).setCell ⟨b, m * 2 + 1, none⟩ (.int .i64 x.f1)) (some b) := by
  obtain ⟨h0, inner, ho, hr⟩ := h
  rcases ho.2 with ⟨he, hn⟩ | ⟨g, cap', cur, he, hbg, hg, hnc, hcm, hcs, htake⟩
  · cases he
  · injection he with he1 he2 he3
    injection he1 with he1
    injection he1 with he1
    subst he1 he2 he3
    have hcs : cur.size = cap * 2 := hcs
    have htake : cur.toList.take (f0.length * 2) = inner := htake
    have hil : inner.length = f0.length * 2 := ho.1
    obtain ⟨cur1, k1, k2, k3⟩ := setCells_row [.int .u64 x.f0, .int .i64 x.f1] (m * 2) W cur hg (by simp; omega)
    obtain ⟨q1, q2, q3, q4⟩ := setCells_same b [.int .u64 x.f0, .int .i64 x.f1] (m * 2) W
    have hw : W.setCells b (m * 2) [.int .u64 x.f0, .int .i64 x.f1] = (W.setCell ⟨b, m * 2, none⟩ (.int .u64 x.f0)).setCell ⟨b, m * 2 + 1, none⟩ (.int .i64 x.f1) := rfl
    have hfar := fun (k : Nat) (hk : k ≠ b) => setCells_far [.int .u64 x.f0, .int .i64 x.f1] (m * 2) (w := W) k hk
    rw [hw] at k1 q1 q2 q3 q4 hfar
    have htk : cur1.toList.take (f0.length * 2) = inner.take (m * 2) ++ [.int .u64 x.f0, .int .i64 x.f1] ++ inner.drop ((m + 1) * 2) := by
      have hcl : cur.toList.length = cap * 2 := by rw [Array.length_toList]; exact hcs
      have l1 : (cur.toList.take (m * 2) ++ [Value.int .u64 x.f0, Value.int .i64 x.f1]).length = m * 2 + 2 := by rw [List.length_append, List.length_take]; simp; omega
      rw [k3, ← htake, List.take_take, Nat.min_eq_left (by omega), List.drop_take, List.take_append, List.take_of_length_le (by omega), l1]
      simp only [List.length_cons, List.length_nil]
      rw [show m * 2 + (0 + 1 + 1) = (m + 1) * 2 by omega]
    refine ⟨⟨fun _ _ => trivial, inner.take (m * 2) ++ [.int .u64 x.f0, .int .i64 x.f1] ++ inner.drop ((m + 1) * 2), ⟨?_, .inr ⟨b, cap, cur1, by rw [List.length_set], hbg, k1, by rw [List.length_set]; omega, hcm, by rw [k2]; exact hcs, by rw [List.length_set]; exact htk⟩⟩, ?_⟩, ⟨q1, q2, q3, by rw [q4]; exact Nat.le_refl _, fun k hk hne => hfar k (fun e => hne (by rw [e]))⟩⟩
    · rw [List.length_set, List.length_append, List.length_append, List.length_take, List.length_drop, hil]
      show _ = f0.length * 2
      simp only [List.length_cons, List.length_nil]
      omega
    · have e1 : f0.set m x = f0.take m ++ [x] ++ f0.drop (m + 1) := by
        rw [List.set_eq_take_append_cons_drop, if_pos hm, List.append_assoc]; rfl
      rw [e1]
      have r1 := Kd.reps_append ((Kd.reps_take hr (show m ≤ f0.length by omega)).snoc (p := x) (c := [.int .u64 x.f0, .int .i64 x.f1]) (k138_mkM _ _ _ x) rfl) (Kd.reps_drop (m := m + 1) hr)
      exact r1.imp_ (fun p c h => by rw [k138_openM h]; exact k138_mkM _ _ _ _)
/-- Does one go rather than another one? -/
def worseH (e : Int) (h w : S138) : Bool := decide (h.f1 > w.f1) || (h.f1 == w.f1 && (h.f1 == e && decide (h.f0 < w.f0)))
/-- Which of the first ones goes. -/
def worstTo (l : List S138) (e : Int) : Nat → Nat
  | 0 => 0
  | j + 1 => if worseH e (rd_T138 l (j : Int)) (rd_T138 l (worstTo l e j : Nat)) then j else worstTo l e j
theorem worstTo_le (l : List S138) (e : Int) : ∀ j, worstTo l e j ≤ j
  | 0 => Nat.le_refl _
  | j + 1 => by
    unfold worstTo
    have := worstTo_le l e j
    split <;> omega
theorem worstTo_lt (l : List S138) (e : Int) : ∀ j, 0 < j → worstTo l e j < j
  | 0, h => absurd h (by omega)
  | j + 1, _ => by
    unfold worstTo
    have := worstTo_le l e j
    split <;> omega
set_option maxRecDepth 1000000 in
set_option maxHeartbeats 4000000 in
theorem best_worst.calls (base g : Nat) (v0 v1 : Value) (f0 : List S138) (f1 : List Int) (e : Int) (w : World) (hS : RunS w base g v0 v1 f0 f1 e) (hl : f0.length ≤ 1000000) :
    Calls Try.prog 121 #[.pointer (some ⟨g, 0, none⟩)] w fun e_ w' => e_ = .returned (.int .i64 (worstTo f0 e f0.length : Nat)) ∧ Below w.heap.size w w' := by
  obtain ⟨A, c, rfl, hcl, hC⟩ := Kd.R_reads hS.k
  have HS := Aside0.mk hS
  have HC := Aside0.mk hC
  have hc0 := HS.out.c0
  have hu138 := Try.underlying138
  have hglt : g < w.heap.size := blk_lt HS.out.blk
  clear hS hC
  go_enter Try.func121, Try.ntmps121
  go_wp2
  go_loopw [12, 3, 4, 5, 6] (fun v12 v3 v4 v5 v6 wr => ∃ j : Nat, v12 = .int .i64 j ∧ v3 = .int .i64 (worstTo f0 e j : Nat) ∧ j ≤ f0.length ∧ Aside0 (Below w.heap.size w wr)) (fun v12 _ _ _ _ _ => f0.length - (intOf v12).toNat)
  case atStart => exact ⟨0, rfl, rfl, Nat.zero_le _, ⟨Below.refl _ _⟩⟩
  case round =>
    obtain ⟨j, rfl, rfl, hj, HB⟩ := hrel
    by_cases hlt : j < f0.length
    · have p1 : (0 : Int) ≤ (j : Int) := by omega
      have q1 : (j : Int) < (f0.length : Int) := by omega
      obtain ⟨m, hm⟩ : ∃ m, m = worstTo f0 e j := ⟨_, rfl⟩
      have hmj : m < f0.length := by rw [hm]; have := worstTo_le f0 e j; omega
      rw [← hm]
      have p3 : (0 : Int) ≤ (m : Int) := by omega
      have q3 : (m : Int) < (f0.length : Int) := by omega
      obtain ⟨ad, e1, hx0, hx1⟩ := at_T138 HC.out (j : Int) p1 q1
      cases e1
      obtain ⟨ad', e1, hy0, hy1⟩ := at_T138 HC.out (m : Int) p3 q3
      cases e1
      have hbl : ad.block < w.heap.size := by have := World.block_lt_of_cell? w _ hx0; rwa [add_block] at this
      replace hx0 := pw_cell_below HB.out hx0
      replace hx1 := pw_cell_below HB.out hx1
      replace hy0 := pw_cell_below HB.out hy0
      replace hy1 := pw_cell_below HB.out hy1
      rw [Int.toNat_natCast] at hx0 hx1 hy0 hy1
      have hb1 : ad.block < wr.heap.size := Nat.lt_of_lt_of_le hbl HB.out.size
      have hg1 : g < wr.heap.size := Nat.lt_of_lt_of_le hglt HB.out.size
      replace hc0 := pw_cell_below HB.out hc0
      have hc2 := pw_cell_below HB.out HS.out.c2
      obtain ⟨x, hxd⟩ : ∃ x, x = rd_T138 f0 (j : Int) := ⟨_, rfl⟩
      obtain ⟨y, hyd⟩ : ∃ y, y = rd_T138 f0 (m : Int) := ⟨_, rfl⟩
      rw [← hxd] at hx0 hx1
      rw [← hyd] at hy0 hy1
      have hst : worstTo f0 e (j + 1) = if worseH e x y then j else m := by
        rw [hxd, hyd, hm]; rfl
      have HST := Aside0.mk hst
      have HM := Aside0.mk hm
      clear hxd hyd hm hst
      have hya0 := (World.cell?_alloc_lt wr (.cells #[.int .u64 x.f0, .int .i64 x.f1] 138) (ad.add (m * 2)) (by rw [add_block]; exact hb1)).trans hy0
      have hya1 := (World.cell?_alloc_lt wr (.cells #[.int .u64 x.f0, .int .i64 x.f1] 138) ⟨(ad.add (m * 2)).block, (ad.add (m * 2)).off + 1, none⟩ (by show (ad.add (m * 2)).block < _; rw [add_block]; exact hb1)).trans hy1
      have p2 := eq_true p1
      have q2 := eq_true q1
      have p4 := eq_true p3
      have q4 := eq_true q3
      by_cases c1 : x.f1 > y.f1
      · have b1 : decide (y.f1 < x.f1) = true := decide_eq_true c1
        have hwo : worseH e x y = true := by simp [worseH, c1]
        go_wp2
        repeat (go_quiet (fail); try go_wp2)
        go_roundw
        case rel => exact ⟨j + 1, by go_num, by rw [HST.out, hwo]; rfl, by omega, ⟨by repeat (first | (with_reducible first | exact HB.out | apply below_alloc | apply pw_below_drewN | apply below_drew1) | exact HB.out | exact Below.refl _ _)⟩⟩
        case measure => simp [intOf]; omega
      · have b1 : decide (y.f1 < x.f1) = false := decide_eq_false c1
        by_cases c2 : x.f1 = y.f1
        · have b2 : (x.f1 == y.f1) = true := beq_iff_eq.2 c2
          by_cases c3 : x.f1 = e
          · have b3 : (x.f1 == e) = true := beq_iff_eq.2 c3
            by_cases c4 : x.f0 < y.f0
            · have b4 : decide (x.f0 < y.f0) = true := decide_eq_true c4
              have hwo : worseH e x y = true := by simp only [worseH, b2, b3, b4]; simp
              clear c1 c2 c3 c4
              go_wp2
              repeat (go_quiet (fail); try go_wp2)
              go_roundw
              case rel => exact ⟨j + 1, by go_num, by rw [HST.out, hwo]; rfl, by omega, ⟨by repeat (first | (with_reducible first | exact HB.out | apply below_alloc | apply pw_below_drewN | apply below_drew1) | exact HB.out | exact Below.refl _ _)⟩⟩
              case measure => simp [intOf]; omega
            · have b4 : decide (x.f0 < y.f0) = false := decide_eq_false c4
              have hwo : worseH e x y = false := by unfold worseH; rw [b1, b2, b3, b4]; rfl
              clear c1 c2 c3 c4
              go_wp2
              repeat (go_quiet (fail); try go_wp2)
              go_roundw
              case rel => exact ⟨j + 1, by go_num, by rw [HST.out, hwo]; rfl, by omega, ⟨by repeat (first | (with_reducible first | exact HB.out | apply below_alloc | apply pw_below_drewN | apply below_drew1) | exact HB.out | exact Below.refl _ _)⟩⟩
              case measure => simp [intOf]; omega
          · have b3 : (x.f1 == e) = false := beq_eq_false_iff_ne.2 c3
            have hwo : worseH e x y = false := by unfold worseH; rw [b1, b2, b3]; rfl
            clear c1 c2 c3
            go_wp2
            repeat (go_quiet (fail); try go_wp2)
            go_roundw
            case rel => exact ⟨j + 1, by go_num, by rw [HST.out, hwo]; rfl, by omega, ⟨by repeat (first | (with_reducible first | exact HB.out | apply below_alloc | apply pw_below_drewN | apply below_drew1) | exact HB.out | exact Below.refl _ _)⟩⟩
            case measure => simp [intOf]; omega
        · have b2 : (x.f1 == y.f1) = false := beq_eq_false_iff_ne.2 c2
          have hwo : worseH e x y = false := by unfold worseH; rw [b1, b2]; rfl
          clear c1 c2
          go_wp2
          repeat (go_quiet (fail); try go_wp2)
          go_roundw
          case rel => exact ⟨j + 1, by go_num, by rw [HST.out, hwo]; rfl, by omega, ⟨by repeat (first | (with_reducible first | exact HB.out | apply below_alloc | apply pw_below_drewN | apply below_drew1) | exact HB.out | exact Below.refl _ _)⟩⟩
          case measure => simp [intOf]; omega
    · have hjn : j = f0.length := by omega
      subst hjn
      go_wp2
      go_ret
      exact ⟨rfl, HB.out⟩

end Go.Proofs.Ytdjbpdahdakfjaa.PBest
