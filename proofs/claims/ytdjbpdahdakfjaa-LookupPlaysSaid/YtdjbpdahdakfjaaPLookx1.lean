-- Written by a program of this session (a turned copy of the kit's printer, texts of this session's own for functions that it does not take).
import Derived.Test.YtdjbpdahdakfjaaPLookx0
namespace Go.Proofs.Ytdjbpdahdakfjaa.PLook
open Go.RowKit Go.Proofs.YtdjbpdahdakfjaaH Go.Proofs.YtdjbpdahdakfjaaW.PrintWords Go.Proofs.YtdjbpdahdakfjaaW.PrintLast Go.Proofs.YtdjbpdahdakfjaaW.PrintMore
attribute [local go_sem] max2_int min2_int max_two min_two max_three min_three max_four min_four   -- for this text's walks alone
set_option linter.unusedVariables false
set_option linter.unusedSimpArgs false

/-! ### hutchref06_Same: function 25 -/
def hutchref06_Same.l0 : Nat → List Int → List Int → Int → Option (Bool)
  | 0, _, _, _ => none
  | k + 1, x0, x1, x5 => if x5 < (x0.length : Int) then (if 0 ≤ x5 then (if x5 < (x1.length : Int) then (if (rd x0 x5) = (rd x1 x5) then (hutchref06_Same.l0 k x0 x1 (wrap64 (x5 + 1))) else (some false)) else (none)) else (none)) else (some true)
def hutchref06_Same.f (k : Nat) (l0 : List Int) (l1 : List Int) : Option (Bool) := if (l0.length : Int) = (l1.length : Int) then (hutchref06_Same.l0 k l0 l1 0) else (some false)
theorem hutchref06_Same.mono_l : ∀ k, (∀ y0 y1 y2, LeO (hutchref06_Same.l0 k y0 y1 y2) (hutchref06_Same.l0 (k + 1) y0 y1 y2))
  | 0 => fun _ _ _ r h => by simp [hutchref06_Same.l0] at h
  | k + 1 => by
    have ih0 := hutchref06_Same.mono_l k
    · intro y0 y1 y2
      unfold hutchref06_Same.l0
      repeat' first
      | (with_reducible exact ih0 _ _ _)
      | (with_reducible exact LeO.refl _)
      | (with_reducible exact LeO.none _)
      | (with_reducible refine LeO.ite ?_ ?_)
      | (with_reducible refine LeO.bind ?_ (fun _ => ?_))
      | exact ih0 _ _ _
      | exact LeO.none _
      | refine LeO.ite ?_ ?_
      | refine LeO.bind ?_ (fun _ => ?_)
theorem hutchref06_Same.mono : ∀ a0 a1 k, LeO (hutchref06_Same.f k a0 a1) (hutchref06_Same.f (k + 1) a0 a1) := by
  intro a0 a1 k
  have ih0 := hutchref06_Same.mono_l k
  unfold hutchref06_Same.f
  repeat' first
      | (with_reducible exact ih0 _ _ _)
      | (with_reducible exact LeO.refl _)
      | (with_reducible exact LeO.none _)
      | (with_reducible refine LeO.ite ?_ ?_)
      | (with_reducible refine LeO.bind ?_ (fun _ => ?_))
      | exact ih0 _ _ _
      | exact LeO.none _
      | refine LeO.ite ?_ ?_
      | refine LeO.bind ?_ (fun _ => ?_)
set_option maxHeartbeats 8000000 in
set_option maxRecDepth 100000 in
theorem hutchref06_Same.calls (k : Nat) (A0 : Option Addr) (c0 : Nat) (l0 : List Int) (A1 : Option Addr) (c1 : Nat) (l1 : List Int) (r : Bool) (w : World) (hr0 : Kd.C (Kd.int .u64) w A0 l0.length l0) (hc0 : l0.length ≤ c0) (hr1 : Kd.C (Kd.int .u64) w A1 l1.length l1) (hc1 : l1.length ≤ c1) (h : hutchref06_Same.f k l0 l1 = some r) :
    Calls Try.prog 25 #[.slice A0 l0.length c0, .slice A1 l1.length c1] w fun e w' => e = .returned (.bool r) ∧ Drawn0 w w' := by
  have HR0 := Aside0.mk hr0
  have HC0 := Aside0.mk hc0
  clear hr0 hc0
  have HR1 := Aside0.mk hr1
  have HC1 := Aside0.mk hc1
  clear hr1 hc1
  have H : (if (l0.length : Int) = (l1.length : Int) then (hutchref06_Same.l0 k l0 l1 0) else (some false)) = some r := h
  clear h
  by_cases c3 : (l0.length : Int) = (l1.length : Int)
  · rw [if_pos c3] at H
    have c3b0 : ((l0.length : Int) == (l1.length : Int)) = true := beq_iff_eq.mpr c3
    have c3b1 : ((l0.length : Int) != (l1.length : Int)) = false := bne_eq_false_iff_eq.mpr c3
    have c3b2 : (l0.length == l1.length) = true := by first | simpa using c3 | (simp at c3 ⊢; omega)
    clear c3
    have H' := Aside0.mk H
    clear H
    go_enter Try.func25, Try.ntmps25
    go_wp2
    repeat (go_quiet (fail); try go_wp2)
    go_loopg [5] k (fun kq v5 w' => ∃ (x5_1 : Int), v5 = .int .i64 x5_1 ∧ Aside0 (hutchref06_Same.l0 kq l0 l1 x5_1 = some r) ∧ Aside0 (kq ≤ k) ∧ Drawn0 w w')
    case atStart => exact ⟨(0), (by first | rfl | (simp; done) | (simp [*]; done)), H', ⟨Nat.le_refl _⟩, by repeat (first | exact Drawn0.refl _ | apply Drawn0.step)⟩
    case round =>
      clear H'
      try clear c1
      try clear c2
      try clear p2
      try clear c3
      try clear c3b0
      try clear c3b1
      try clear c3b2
      obtain ⟨x5_1, rfl, HA, HK1, ⟨m1, rfl⟩⟩ := hrel
      cases gk with
      | zero => exact absurd HA.out (by simp [hutchref06_Same.l0])
      | succ k1 =>
        have H := HA.out
        clear HA
        simp only [hutchref06_Same.l0] at H
        by_cases c4 : x5_1 < (l0.length : Int)
        · rw [if_pos c4] at H
          have c4b0 : decide (x5_1 < (l0.length : Int)) = true := decide_eq_true c4
          clear c4
          by_cases c5 : 0 ≤ x5_1
          · rw [if_pos c5] at H
            have c5b0 : decide (0 ≤ x5_1) = true := decide_eq_true c5
            clear c5
            by_cases c6 : x5_1 < (l1.length : Int)
            · rw [if_pos c6] at H
              have c6b0 : decide (x5_1 < (l1.length : Int)) = true := decide_eq_true c6
              clear c6
              by_cases c7 : (rd l0 x5_1) = (rd l1 x5_1)
              · rw [if_pos c7] at H
                have c7b0 : ((rd l0 x5_1) == (rd l1 x5_1)) = true := beq_iff_eq.mpr c7
                have c7b1 : ((rd l0 x5_1) != (rd l1 x5_1)) = false := bne_eq_false_iff_eq.mpr c7
                clear c7
                have H' := Aside0.mk H
                clear H
                have p101 : 0 ≤ (x5_1 : Int) := of_decide_eq_true (by first | (with_reducible assumption) | assumption)
                have q101 : x5_1 < (l0.length : Int) := of_decide_eq_true (by first | (with_reducible assumption) | assumption)
                obtain ⟨ad101, e101, hx101_0⟩ := Kd.at_int HR0.out x5_1 p101 q101
                cases e101
                replace p101 := eq_true p101
                replace q101 := eq_true q101
                have p102 : 0 ≤ (x5_1 : Int) := of_decide_eq_true (by first | (with_reducible assumption) | assumption)
                have q102 : x5_1 < (l1.length : Int) := of_decide_eq_true (by first | (with_reducible assumption) | assumption)
                obtain ⟨ad102, e102, hx102_0⟩ := Kd.at_int HR1.out x5_1 p102 q102
                cases e102
                replace p102 := eq_true p102
                replace q102 := eq_true q102
                go_wp2
                repeat (go_quiet (fail); try go_wp2)
                go_roundg k1
                case measure => have := HK1.out; omega
                case rel => exact ⟨(wrap64 (x5_1 + 1)), (by first | rfl | (simp; done) | (simp [*]; done)), H', ⟨by have := HK1.out; omega⟩, by repeat (first | exact Drawn0.refl _ | apply Drawn0.step)⟩
              · rw [if_neg c7] at H
                have c7b0 : ((rd l0 x5_1) == (rd l1 x5_1)) = false := beq_eq_false_iff_ne.mpr c7
                have c7b1 : ((rd l0 x5_1) != (rd l1 x5_1)) = true := bne_iff_ne.mpr c7
                obtain rfl := Option.some.inj H
                have p101 : 0 ≤ (x5_1 : Int) := of_decide_eq_true (by first | (with_reducible assumption) | assumption)
                have q101 : x5_1 < (l0.length : Int) := of_decide_eq_true (by first | (with_reducible assumption) | assumption)
                obtain ⟨ad101, e101, hx101_0⟩ := Kd.at_int HR0.out x5_1 p101 q101
                cases e101
                replace p101 := eq_true p101
                replace q101 := eq_true q101
                have p102 : 0 ≤ (x5_1 : Int) := of_decide_eq_true (by first | (with_reducible assumption) | assumption)
                have q102 : x5_1 < (l1.length : Int) := of_decide_eq_true (by first | (with_reducible assumption) | assumption)
                obtain ⟨ad102, e102, hx102_0⟩ := Kd.at_int HR1.out x5_1 p102 q102
                cases e102
                replace p102 := eq_true p102
                replace q102 := eq_true q102
                go_wp2
                repeat (go_quiet (fail); try go_wp2)
                go_ret
                exact ⟨by first | rfl | (simp; done) | (simp [*]; done), by repeat (first | exact Drawn0.refl _ | apply Drawn0.step)⟩
            · rw [if_neg c6] at H
              exact absurd H (by simp)
          · rw [if_neg c5] at H
            exact absurd H (by simp)
        · rw [if_neg c4] at H
          have c4b0 : decide (x5_1 < (l0.length : Int)) = false := decide_eq_false c4
          clear c4
          obtain rfl := Option.some.inj H
          go_wp2
          repeat (go_quiet (fail); try go_wp2)
          go_ret
          exact ⟨by first | rfl | (simp; done) | (simp [*]; done), by repeat (first | exact Drawn0.refl _ | apply Drawn0.step)⟩
  · rw [if_neg c3] at H
    have c3b0 : ((l0.length : Int) == (l1.length : Int)) = false := beq_eq_false_iff_ne.mpr c3
    have c3b1 : ((l0.length : Int) != (l1.length : Int)) = true := bne_iff_ne.mpr c3
    have c3b2 : (l0.length == l1.length) = false := by first | simpa using c3 | (simp at c3 ⊢; omega)
    obtain rfl := Option.some.inj H
    go_enter Try.func25, Try.ntmps25
    go_wp2
    repeat (go_quiet (fail); try go_wp2)
    go_ret
    exact ⟨by first | rfl | (simp; done) | (simp [*]; done), by repeat (first | exact Drawn0.refl _ | apply Drawn0.step)⟩


/-! ### lookup_fresh: function 83 -/
-- by hand
theorem shl_pow (b : Nat) (hb : b ≤ 30) : IntKind.i64.wrap (2 ^ b) = ((2 ^ b : Nat) : Int) ∧ wrap64 (2 ^ b) = ((2 ^ b : Nat) : Int) := by
  have hp : (2 : Nat) ^ b ≤ 2 ^ 30 := Nat.pow_le_pow_right (by decide) hb
  have hc : (2 : Int) ^ b = ((2 ^ b : Nat) : Int) := by simp
  rw [hc]
  generalize 2 ^ b = q at hp
  constructor
  · rw [IntKind.wrap_i64]; omega
  · unfold wrap64; omega
set_option maxRecDepth 100000 in
set_option maxHeartbeats 4000000 in
theorem lookup_fresh.calls {b : Nat} {w : World} (hb : b ≤ 30) :
    Calls Try.prog 83 #[.int .i64 (b : Int)] w fun e w' => ∃ A, e = .returned (.agg #[.int .i64 (b : Int), .slice (some ⟨A, 0, none⟩) (2 ^ b) (2 ^ b), .int .i64 0]) ∧ Arr Tab.enc w' A 111 (List.replicate (2 ^ b) Tab.z) ∧ w.heap.size ≤ A ∧ Below w.heap.size w w' := by
  obtain ⟨n, hn⟩ : ∃ n, n = 2 ^ b := ⟨_, rfl⟩
  obtain ⟨s1, s2⟩ := shl_pow b hb
  rw [← hn] at s1 s2 ⊢
  have s3 : IntKind.i64.wrap (1 * 2 ^ b) = (n : Int) := by rw [Int.one_mul]; exact s1
  have s4 : wrap64 (1 * 2 ^ b) = (n : Int) := by rw [Int.one_mul]; exact s2
  have hn1 : n ≤ 1073741824 := by rw [hn]; exact Nat.pow_le_pow_right (by decide) hb
  have HN := Aside0.mk hn
  clear hn
  have hb' : (b : Int) ≤ 30 := by omega
  have m1 : min b 64 = b := Nat.min_eq_left (by omega)
  have u1 : IntKind.u64.wrap (b : Int) = (b : Int) := by rw [IntKind.wrap_u64]; omega
  obtain ⟨i0, hi0, hzz⟩ := Option.map_eq_some_iff.1 (show (Try.prog.info? 111).map (fun i => (i.zero, i.size, i.bytes)) = some (some (.agg #[.int .u64 0, .int .i32 0, .bool false]), 3, 16) by kernel_rfl)
  simp only [Prod.mk.injEq] at hzz
  obtain ⟨hz0, hz1, hz2⟩ := hzz
  have hmk : ∀ W : World, (Instr.makeSlice 102 (.int .i64 (n : Int)) (.int .i64 (n : Int))).run Try.prog W = .ok (.slice (some ⟨W.heap.size, 0, none⟩) n n) (W.alloc (.cells (madeCells #[.int .u64 0, .int .i32 0, .bool false] (n * 3)) 111)) := fun W => by
    have := run_make W 102 111 i0 _ Try.underlying102 hi0 hz0 .i64 .i64 (n : Int) (n : Int) (by omega) (by omega) (by rw [hz2]; omega) (by omega)
    rw [hz1] at this
    simpa [Value.cells] using this
  clear hi0 hz0 hz1 hz2
  go_enter Try.func83, Try.ntmps83
  go_wp2
  refine bodyPost_ret (v := .agg #[.int .i64 (b : Int), .slice (some ⟨w.heap.size + 1, 0, none⟩) n n, .int .i64 0]) (by simp [results, Try.results83, go_sem]) rfl ⟨_, rfl, ?_, by omega, ((Below.refl w.heap.size w).alloc (Nat.le_refl _) _).alloc (by simp) _⟩
  refine Tab.arr_made ?_
  have := blk_new (w.alloc (.cells #[.int .i64 (b : Int), .slice (some ⟨w.heap.size + 1, 0, none⟩) n n, .int .i64 0] 104)) (.cells (madeCells #[.int .u64 0, .int .i32 0, .bool false] (n * 3)) 111)
  simpa using this
theorem lookup_fresh.calls_succ {b : Nat} {w : World} (hb : b < 30) :
    Calls Try.prog 83 #[.int .i64 ((b : Int) + 1)] w fun e w' => ∃ A, e = .returned (.agg #[.int .i64 ((b : Int) + 1), .slice (some ⟨A, 0, none⟩) (2 ^ (b + 1)) (2 ^ (b + 1)), .int .i64 0]) ∧ Arr Tab.enc w' A 111 (List.replicate (2 ^ (b + 1)) Tab.z) ∧ w.heap.size ≤ A ∧ Below w.heap.size w w' :=
  lookup_fresh.calls (b := b + 1) hb


/-! ### lookup_New: function 45 -/
-- by hand
set_option maxRecDepth 100000 in
set_option maxHeartbeats 4000000 in
theorem lookup_New.calls {home : Nat → Int → Nat} (hh : ∀ x, home 3 x < 8) {w : World} :
    Calls Try.prog 45 #[] w fun e w' => ∃ g cs t, e = .returned (.pointer (some ⟨g, 0, none⟩)) ∧ Tab.TbAt 111 107 w' g cs t ∧ Tab.TInv home 0 t ∧ (∀ k v, ¬ t.has k v) ∧ t.moves = 0 ∧ t.len = 0 ∧ t.now.sl.length = 8 ∧ (∀ k, t.foot g k → w.heap.size ≤ k) ∧ Below w.heap.size w w' := by
  go_enter Try.func45, Try.ntmps45
  go_wp2_with (go_at_call 83; refine (lookup_fresh.calls (b := 3) (by decide)).mono ?_; rintro e w1 ⟨A, rfl, hA, hle, hb⟩; have HA := Aside0.mk hA; have HLE := Aside0.mk hle; have HB := Aside0.mk hb; clear hA hle hb)
  go_ret
  have hlt : A < w1.heap.size := HA.out.lt
  have hT : Tab.TbAt 111 107 _ w1.heap.size _ ⟨⟨3, some A, List.replicate 8 Tab.z, 0⟩, Tab.none_, 0, 0⟩ :=
    Tab.TbAt.of (w := w1.alloc (.cells #[.int .i64 3, .slice (some ⟨A, 0, none⟩) 8 8, .int .i64 0, .int .i64 0, .slice none 0 0, .int .i64 0, .int .i64 0, .int .u64 0] 107)) (blk_new w1 _)
      (fun B hB => by
        obtain rfl : A = B := Option.some.inj hB
        exact ⟨HA.out.far (Below.heap_alloc _ _ _ hlt), by omega⟩)
      (fun B hB => absurd hB (by simp [Tab.none_])) (fun h => absurd h (by simp)) (fun _ => rfl) (fun B _ => by simp [Tab.none_])
  refine ⟨_, _, _, rfl, hT, Tab.TInv.new hh A, fun k v h => ?_, rfl, ?_, by simp, fun k hk => ?_, HB.out.alloc (HB.out.size) _⟩
  · rcases h with h | h
    · exact Tab.not_has (Tab.cnt_rep 8) k v h
    · exact Tab.not_has rfl k v h
  · show Tab.cnt _ + Tab.cnt ([] : List Sl) = 0
    rw [Tab.cnt_rep]
    rfl
  · have hs := HB.out.size
    have hl := HLE.out
    rcases hk with rfl | hk | hk
    · exact hs
    · obtain rfl : A = k := Option.some.inj hk
      exact hl
    · exact absurd hk (by simp [Tab.none_])


/-! ### lookup_Table_Len: function 47 -/
-- by hand
set_option maxRecDepth 100000 in
set_option maxHeartbeats 4000000 in
theorem lookup_Table_Len.calls {home : Nat → Int → Nat} {g sk : Nat} {cs : Array Value} {t : Tab.Tb} {w : World} (hT : Tab.TbAt 111 107 w g cs t) (hI : Tab.TInv home sk t) (hk : t.now.sl.length ≤ 1099511627776) :
    Calls Try.prog 47 #[.pointer (some ⟨g, 0, none⟩)] w fun e w' => e = .returned (.int .i64 (t.len : Int)) ∧ ∃ nd, w' = w.drewN nd := by
  have hc2 : w.cell? ⟨g, 2, none⟩ = some (.int .i64 (Tab.cnt t.now.sl : Int)) := ((blk_cell hT.now.blk 2).trans hT.now.c2).trans (by rw [hI.many])
  have hom := (Tab.MvInv.start hI).oldMany
  have hc5 : w.cell? ⟨g, 5, none⟩ = some (.int .i64 (Tab.cnt t.old.sl : Int)) := ((blk_cell hT.old.blk 5).trans hT.old.c2).trans (by rw [hom])
  have hl := hI.load
  have hl1 : t.len = Tab.cnt t.now.sl + Tab.cnt t.old.sl := rfl
  rw [hl1] at hl ⊢
  clear hom hI hT hl1
  generalize Tab.cnt t.now.sl = a at hl hc2 ⊢
  generalize Tab.cnt t.old.sl = b at hl hc5 ⊢
  have ha : (a : Int) ≤ 1099511627776 := by omega
  have hb : (b : Int) ≤ 1099511627776 := by omega
  have ha0 : (0 : Int) ≤ (a : Int) := by omega
  have hb0 : (0 : Int) ≤ (b : Int) := by omega
  clear hl hk
  go_enter Try.func47, Try.ntmps47
  go_wp2
  go_quiet (fail)
  go_wp2
  go_ret
  exact ⟨by simp, _, rfl⟩
set_option maxRecDepth 100000 in
set_option maxHeartbeats 4000000 in
theorem lookup_Table_Len.nil (w : World) : Calls Try.prog 47 #[.pointer none] w fun e w' => e = .returned (.int .i64 0) ∧ w' = w := by
  go_enter Try.func47, Try.ntmps47
  go_wp2
  go_ret
  exact ⟨rfl, rfl⟩

/-! ### mix_shift: function 97 -/
def mix_shift.f (a0 : Int) (a1 : Int) : Option (Int) := if 0 ≤ a1 then (some (Go.bits .xor .u64 a0 (shr .u64 a0 a1))) else (none)
set_option maxHeartbeats 8000000 in
set_option maxRecDepth 100000 in
theorem mix_shift.calls (a0 : Int) (a1 : Int) (r : Int) (w : World) (h : mix_shift.f a0 a1 = some r) :
    Calls Try.prog 97 #[.int .u64 a0, .int .u64 a1] w fun e w' => e = .returned (.int .u64 r) ∧ Drawn0 w w' := by
  have H : (if 0 ≤ a1 then (some (Go.bits .xor .u64 a0 (shr .u64 a0 a1))) else (none)) = some r := h
  clear h
  by_cases c3 : 0 ≤ a1
  · rw [if_pos c3] at H
    have c3b0 := eq_true c3
    have c3b1 : decide (0 ≤ a1) = true := decide_eq_true c3
    clear c3
    obtain ⟨ji4, hji4⟩ : ∃ j_ : Int, (shr .u64 a0 a1) = j_ := ⟨_, rfl⟩
    replace H : (some (Go.bits .xor .u64 a0 (ji4))) = some r := by first | (rw [hji4] at H; exact H) | (simp only [hji4] at H ⊢; exact H)
    have hji4_ : (a0 / 2 ^ min a1.toNat 64) = ji4 := hji4
    have hji4z : a1 ≤ 64 → (a0 / 2 ^ a1.toNat) = ji4 := shr_small hji4
    obtain rfl := Option.some.inj H
    go_enter Try.func97, Try.ntmps97
    go_wp2
    go_ret
    exact ⟨by first | rfl | (simp; done) | (simp only [← hji4] <;> (first | rfl | simp)) | (simp [*]; done), by repeat (first | exact Drawn0.refl _ | apply Drawn0.step)⟩
  · rw [if_neg c3] at H
    exact absurd H (by simp)

/-! ### mix_Mix: function 65 -/
def mix_Mix.f (a0 : Int) : Option (Int) := (mix_shift.f a0 30).bind fun t103 => ((mix_shift.f (IntKind.u64.wrap (t103 * 13787848793156543929)) 27).bind fun t104 => ((mix_shift.f (IntKind.u64.wrap (t104 * 10723151780598845931)) 31).bind fun t105 => (some t105)))
set_option maxHeartbeats 8000000 in
set_option maxRecDepth 100000 in
theorem mix_Mix.calls (a0 : Int) (r : Int) (w : World) (h : mix_Mix.f a0 = some r) :
    Calls Try.prog 65 #[.int .u64 a0] w fun e w' => e = .returned (.int .u64 r) ∧ Drawn0 w w' := by
  have H : ((mix_shift.f a0 30).bind fun t103 => ((mix_shift.f (IntKind.u64.wrap (t103 * 13787848793156543929)) 27).bind fun t104 => ((mix_shift.f (IntKind.u64.wrap (t104 * 10723151780598845931)) 31).bind fun t105 => (some t105)))) = some r := h
  clear h
  replace H := Option.bind_eq_some_iff.mp H
  obtain ⟨t103, A20, H⟩ := H
  replace H : ((mix_shift.f (IntKind.u64.wrap (t103 * 13787848793156543929)) 27).bind fun t104 => ((mix_shift.f (IntKind.u64.wrap (t104 * 10723151780598845931)) 31).bind fun t105 => (some t105))) = some r := H
  have A2 := Aside0.mk A20
  clear A20
  replace H := Option.bind_eq_some_iff.mp H
  obtain ⟨t104, A30, H⟩ := H
  replace H : ((mix_shift.f (IntKind.u64.wrap (t104 * 10723151780598845931)) 31).bind fun t105 => (some t105)) = some r := H
  have A3 := Aside0.mk A30
  clear A30
  replace H := Option.bind_eq_some_iff.mp H
  obtain ⟨t105, A40, H⟩ := H
  replace H : (some t105) = some r := H
  have A4 := Aside0.mk A40
  clear A40
  obtain rfl := Option.some.inj H
  go_enter Try.func65, Try.ntmps65
  go_wp2_with (first | ((with_reducible refine gate_callee (f := 97) rfl ?_); refine goesL_ (some 4) rfl rfl Try.func97 (by kernel_rfl) rfl #[.int .u64 a0, .int .u64 30] rfl (by (try simp only [List.map_toArray, List.map_cons, List.map_nil]); first | done | rfl | (simp only [List.length_drop, List.length_take]; rfl)) ?_; (with_reducible refine (mix_shift.calls a0 30 t103 _ A2.out).mono ?_); rintro e w' ⟨rfl, ⟨nd, rfl⟩⟩; refine ⟨_, rfl, ?_⟩) | ((with_reducible refine gate_callee (f := 97) rfl ?_); refine goesL_ (some 7) rfl rfl Try.func97 (by kernel_rfl) rfl #[.int .u64 (IntKind.u64.wrap (t103 * 13787848793156543929)), .int .u64 27] rfl (by (try simp only [List.map_toArray, List.map_cons, List.map_nil]); first | done | rfl | (simp only [List.length_drop, List.length_take]; rfl)) ?_; (with_reducible refine (mix_shift.calls (IntKind.u64.wrap (t103 * 13787848793156543929)) 27 t104 _ A3.out).mono ?_); rintro e w' ⟨rfl, ⟨nd, rfl⟩⟩; refine ⟨_, rfl, ?_⟩) | ((with_reducible refine gate_callee (f := 97) rfl ?_); refine goesL_ (some 10) rfl rfl Try.func97 (by kernel_rfl) rfl #[.int .u64 (IntKind.u64.wrap (t104 * 10723151780598845931)), .int .u64 31] rfl (by (try simp only [List.map_toArray, List.map_cons, List.map_nil]); first | done | rfl | (simp only [List.length_drop, List.length_take]; rfl)) ?_; (with_reducible refine (mix_shift.calls (IntKind.u64.wrap (t104 * 10723151780598845931)) 31 t105 _ A4.out).mono ?_); rintro e w' ⟨rfl, ⟨nd, rfl⟩⟩; refine ⟨_, rfl, ?_⟩))
  go_ret
  exact ⟨by first | rfl | (simp; done) | (simp [*]; done), by repeat (first | exact Drawn0.refl _ | apply Drawn0.step)⟩

/-! ### mix_Slot: function 81 -/
def mix_Slot.f (a0 : Int) (a1 : Int) : Option (Int) := if a1 < 1 then (some 0) else (if a1 > 30 then (some 0) else ((mix_Mix.f a0).bind fun t106 => (if 0 ≤ (IntKind.u64.wrap (wrap64 (64 - a1))) then (some (wrap64 (shr .u64 t106 (IntKind.u64.wrap (wrap64 (64 - a1)))))) else (none))))
set_option maxHeartbeats 8000000 in
set_option maxRecDepth 100000 in
theorem mix_Slot.calls (a0 : Int) (a1 : Int) (r : Int) (w : World) (h : mix_Slot.f a0 a1 = some r) :
    Calls Try.prog 81 #[.int .u64 a0, .int .i64 a1] w fun e w' => e = .returned (.int .i64 r) ∧ Drawn0 w w' := by
  have H : (if a1 < 1 then (some 0) else (if a1 > 30 then (some 0) else ((mix_Mix.f a0).bind fun t106 => (if 0 ≤ (IntKind.u64.wrap (wrap64 (64 - a1))) then (some (wrap64 (shr .u64 t106 (IntKind.u64.wrap (wrap64 (64 - a1)))))) else (none))))) = some r := h
  clear h
  by_cases c3 : a1 < 1
  · rw [if_pos c3] at H
    have c3b0 : decide (a1 < 1) = true := decide_eq_true c3
    clear c3
    obtain rfl := Option.some.inj H
    go_enter Try.func81, Try.ntmps81
    go_wp2
    go_ret
    exact ⟨by first | rfl | (simp; done) | (simp [*]; done), by repeat (first | exact Drawn0.refl _ | apply Drawn0.step)⟩
  · rw [if_neg c3] at H
    have c3b0 : decide (a1 < 1) = false := decide_eq_false c3
    clear c3
    by_cases c4 : a1 > 30
    · rw [if_pos c4] at H
      have c4b0 : decide (30 < a1) = true := decide_eq_true c4
      clear c4
      obtain rfl := Option.some.inj H
      go_enter Try.func81, Try.ntmps81
      go_wp2
      go_ret
      exact ⟨by first | rfl | (simp; done) | (simp [*]; done), by repeat (first | exact Drawn0.refl _ | apply Drawn0.step)⟩
    · rw [if_neg c4] at H
      have c4b0 : decide (30 < a1) = false := decide_eq_false c4
      clear c4
      replace H := Option.bind_eq_some_iff.mp H
      obtain ⟨t106, A50, H⟩ := H
      replace H : (if 0 ≤ (IntKind.u64.wrap (wrap64 (64 - a1))) then (some (wrap64 (shr .u64 t106 (IntKind.u64.wrap (wrap64 (64 - a1)))))) else (none)) = some r := H
      have A5 := Aside0.mk A50
      clear A50
      obtain ⟨ji6, hji6⟩ : ∃ j_ : Int, (IntKind.u64.wrap (wrap64 (64 - a1))) = j_ := ⟨_, rfl⟩
      replace H : (if 0 ≤ (ji6) then (some (wrap64 (shr .u64 t106 (ji6)))) else (none)) = some r := by first | (rw [hji6] at H; exact H) | (simp only [hji6] at H ⊢; exact H)
      (try rw [hji6] at A5)
      by_cases c7 : 0 ≤ (ji6)
      · rw [if_pos c7] at H
        have c7b0 := eq_true c7
        have c7b1 : decide (0 ≤ (ji6)) = true := decide_eq_true c7
        clear c7
        obtain ⟨ji8, hji8⟩ : ∃ j_ : Int, (shr .u64 t106 (ji6)) = j_ := ⟨_, rfl⟩
        replace H : (some (wrap64 (ji8))) = some r := by first | (rw [hji8] at H; exact H) | (simp only [hji8] at H ⊢; exact H)
        (try rw [hji8] at A5)
        have hji8_ : (t106 / 2 ^ min (ji6).toNat 64) = ji8 := hji8
        have hji8z : (ji6) ≤ 64 → (t106 / 2 ^ (ji6).toNat) = ji8 := shr_small hji8
        obtain rfl := Option.some.inj H
        go_enter Try.func81, Try.ntmps81
        go_wp2_with (first | ((with_reducible refine gate_callee (f := 65) rfl ?_); refine goesL_ (some 12) rfl rfl Try.func65 (by kernel_rfl) rfl #[.int .u64 a0] rfl (by (try simp only [List.map_toArray, List.map_cons, List.map_nil]); first | done | rfl | (simp only [List.length_drop, List.length_take]; rfl)) ?_; (with_reducible refine (mix_Mix.calls a0 t106 _ A5.out).mono ?_); rintro e w' ⟨rfl, ⟨nd, rfl⟩⟩; refine ⟨_, rfl, ?_⟩))
        go_ret
        exact ⟨by first | rfl | (simp; done) | (simp only [← hji6, ← hji8] <;> (first | rfl | simp)) | (simp [*]; done), by repeat (first | exact Drawn0.refl _ | apply Drawn0.step)⟩
      · rw [if_neg c7] at H
        exact absurd H (by simp)


/-! ### lookup_rows_mask: function 106 -/
-- by hand
theorem lookup_rows_mask.calls {g o : Nat} {cs : Array Value} {r : Tab.Rw} {w : World} (hR : Tab.RwAt 111 107 w g o cs r) (hl : r.sl.length ≤ 1099511627776) :
    Calls Try.prog 106 #[.pointer (some ⟨g, o, none⟩)] w fun e w' => e = .returned (.int .i64 ((r.sl.length : Int) - 1)) ∧ w' = w := by
  have hc1 : w.cell? ⟨g, o + 1, none⟩ = some r.val := (blk_cell hR.blk _).trans hR.c1
  unfold Tab.Rw.val at hc1
  obtain ⟨n, hn⟩ : ∃ n, n = r.sl.length := ⟨_, rfl⟩
  rw [← hn] at hc1 hl ⊢
  clear hn hR
  have h0 : (0 : Int) ≤ (n : Int) := by omega
  have h1 : (n : Int) ≤ 1099511627776 := by omega
  go_enter Try.func106, Try.ntmps106
  go_wp2
  go_ret
  exact ⟨rfl, rfl⟩


/-! ### lookup_rows_find: function 85 -/
-- by hand
/-- A key's own slot. -/
def tabHome (bits : Nat) (key : Int) : Nat := ((mix_Slot.f key (bits : Int)).getD 0).toNat
theorem shift_is {a b x : Int} (h : mix_shift.f a b = some x) (hb : 0 ≤ b) : x = Go.bits .xor .u64 a (shr .u64 a b) := by
  unfold mix_shift.f at h
  rw [if_pos hb] at h
  exact (Option.some.inj h).symm
theorem tabHome_is (bits : Nat) (key : Int) (h1 : 1 ≤ bits) (h2 : bits ≤ 30) : mix_Slot.f key (bits : Int) = some ((tabHome bits key : Nat) : Int) ∧ tabHome bits key < 2 ^ bits := by
  have hm : ∃ t, mix_Mix.f key = some t ∧ 0 ≤ t ∧ t < 18446744073709551616 := by
    unfold mix_Mix.f mix_shift.f
    refine ⟨_, rfl, ?_⟩
    show 0 ≤ IntKind.u64.wrap _ ∧ IntKind.u64.wrap _ < _
    rw [IntKind.wrap_u64]
    omega
  obtain ⟨t, ht, ht0, ht1⟩ := hm
  have hw1 : wrap64 (64 - (bits : Int)) = 64 - (bits : Int) := by unfold wrap64; omega
  have hw2 : IntKind.u64.wrap (64 - (bits : Int)) = 64 - (bits : Int) := by rw [IntKind.wrap_u64]; omega
  obtain ⟨q, rfl⟩ := Int.eq_ofNat_of_zero_le ht0
  have hp : (2 : Nat) ^ 64 = 2 ^ (64 - bits) * 2 ^ bits := by rw [← Nat.pow_add, show 64 - bits + bits = 64 by omega]
  have hp30 : (2 : Nat) ^ bits ≤ 2 ^ 30 := Nat.pow_le_pow_right (by decide) h2
  have hq : q / 2 ^ (64 - bits) < 2 ^ bits := Nat.div_lt_of_lt_mul (by rw [← hp]; omega)
  have hs : shr .u64 (q : Int) (64 - (bits : Int)) = ((q / 2 ^ (64 - bits) : Nat) : Int) := by
    unfold shr
    rw [show (64 - (bits : Int)).toNat = 64 - bits by omega, Nat.min_eq_left (show 64 - bits ≤ IntKind.u64.bits by simp [IntKind.bits])]
    simp
  have hf : mix_Slot.f key (bits : Int) = some ((q / 2 ^ (64 - bits) : Nat) : Int) := by
    unfold mix_Slot.f
    rw [if_neg (by omega), if_neg (by omega), ht]
    simp only [Option.bind_some]
    simp only [hw1, hw2, hs]
    rw [if_pos (by omega)]
    have : wrap64 ((q / 2 ^ (64 - bits) : Nat) : Int) = ((q / 2 ^ (64 - bits) : Nat) : Int) := by
      unfold wrap64
      generalize q / 2 ^ (64 - bits) = z at hq ⊢
      omega
    rw [this]
  unfold tabHome
  rw [hf]
  simp only [Option.getD_some, Int.toNat_natCast]
  exact ⟨trivial, hq⟩
set_option maxRecDepth 100000 in
set_option maxHeartbeats 4000000 in
theorem lookup_rows_find.calls {f g o : Nat} {cs : Array Value} {r : Tab.Rw} {key : Int} {i : Nat} {b : Bool} {w : World} (hR : Tab.RwAt 111 107 w g o cs r) (hF : Tab.Fit r) (hf : Tab.probe r.sl key f (tabHome r.bits key) = some (i, b)) :
    Calls Try.prog 85 #[.pointer (some ⟨g, o, none⟩), .int .u64 key] w fun e w' => e = .returned (.tuple #[.int .i64 (i : Int), .bool b]) ∧ ∃ nd, w' = w.drewN nd := by
  obtain ⟨hh, hlt⟩ := tabHome_is r.bits key hF.lo hF.hi
  rw [← hF.len] at hlt
  have hc0 : w.cell? ⟨g, o, none⟩ = some (.int .i64 (r.bits : Int)) := (blk_cell hR.blk _).trans hR.c0
  have hc1 : w.cell? ⟨g, o + 1, none⟩ = some r.val := (blk_cell hR.blk _).trans hR.c1
  obtain ⟨A, hA⟩ := Option.ne_none_iff_exists'.1 hF.adr
  have HA := Aside0.mk (hR.arr A hA).1
  have HR := Aside0.mk hR
  have HF := Aside0.mk hF
  have HH := Aside0.mk hh
  obtain ⟨n, hn⟩ : ∃ n, n = r.sl.length := ⟨_, rfl⟩
  have hv : r.val = .slice (some ⟨A, 0, none⟩) n n := by unfold Tab.Rw.val; rw [hA, hn]; rfl
  rw [hv] at hc1
  have hn1 : n ≤ 1073741824 := by rw [hn, hF.len]; exact Nat.pow_le_pow_right (by decide) hF.hi
  have hn0 : 0 < n := by rw [hn, hF.len]; exact Nat.two_pow_pos _
  have e1 : ((n : Int) == 0) = false := beq_eq_false_iff_ne.2 (by omega)
  have e2 : (n == 0) = false := beq_eq_false_iff_ne.2 (by omega)
  have HN := Aside0.mk hn
  have HS := Aside0.mk hf
  rw [← hn] at hlt
  clear hR hF hh hf hn hv hA
  go_enter Try.func85, Try.ntmps85
  go_wp2_with (go_at_call 81; refine (mix_Slot.calls key (r.bits : Int) _ _ HH.out).mono ?_; rintro e w' ⟨rfl, ⟨nd, rfl⟩⟩)
  go_loopg [6] f (fun kq v6 w' => ∃ j : Nat, v6 = .int .i64 (j : Int) ∧ j < n ∧ Aside0 (Tab.probe r.sl key kq j = some (i, b)) ∧ Aside0 (kq ≤ f) ∧ Aside0 (∃ nd, w' = w.drewN nd))
  case atStart => exact ⟨_, rfl, hlt, HS, ⟨Nat.le_refl _⟩, ⟨_, rfl⟩⟩
  case round =>
    obtain ⟨j, rfl, hj, HP, HK, HW⟩ := hrel
    obtain ⟨nd, rfl⟩ := HW.out
    obtain ⟨hcj0, _, hcj2⟩ := Tab.arr_cell (w := w.drewN nd) HA.out (show j < r.sl.length by rw [← HN.out]; exact hj)
    have hc1' : (w.drewN nd).cell? ⟨g, o + 1, none⟩ = some (.slice (some ⟨A, 0, none⟩) n n) := hc1
    have hj0 : (0 : Int) ≤ (j : Int) := by omega
    have hj1 : (j : Int) < (n : Int) := by omega
    have hj2 : (j : Int) ≤ 1073741824 := by omega
    cases gk with
    | zero => exact absurd HP.out (by simp [Tab.probe])
    | succ k1 =>
      have hp := HP.out
      simp only [Tab.probe] at hp
      obtain ⟨s, hs⟩ : ∃ s, s = Tab.at_ r.sl j := ⟨_, rfl⟩
      rw [← hs] at hp hcj0 hcj2
      obtain ⟨sk, sn, st⟩ := s
      clear hs
      simp only at hp hcj0 hcj2
      cases st with
      | false =>
        rw [if_neg (by simp)] at hp
        simp only [Option.some.injEq, Prod.mk.injEq] at hp
        obtain ⟨rfl, rfl⟩ := hp
        go_wp2
        go_ret2
        exact ⟨rfl, _, rfl⟩
      | true =>
        rw [if_pos rfl] at hp
        by_cases hk : sk = key
        · rw [if_pos hk] at hp
          simp only [Option.some.injEq, Prod.mk.injEq] at hp
          obtain ⟨rfl, rfl⟩ := hp
          have kb : (sk == key) = true := beq_iff_eq.2 hk
          clear hk
          go_wp2
          go_ret2
          exact ⟨rfl, _, rfl⟩
        · rw [if_neg hk] at hp
          have kb : (sk == key) = false := beq_eq_false_iff_ne.2 hk
          have HX := Aside0.mk hp
          have HNX := Aside0.mk (Tab.and_next (show r.sl.length = 2 ^ r.bits from HF.out.len) (Nat.le_trans HF.out.hi (by decide)) (show j < r.sl.length by rw [← HN.out]; exact hj))
          clear hk hp HP
          have hm := lookup_rows_mask.calls (HR.out.drewN nd) (by rw [← HN.out]; omega)
          rw [← HN.out] at hm
          have HM := Aside0.mk hm
          clear hm
          have hwr : wrap64 ((j : Int) + 1) = (j : Int) + 1 := by unfold wrap64; omega
          have hnx := HNX.out
          rw [← HN.out] at hnx
          go_wp2_with (go_at_call 106; refine HM.out.mono ?_; rintro e w' ⟨rfl, rfl⟩)
          go_roundg k1
          case measure => have := HK.out; omega
          case rel => exact ⟨Tab.nxt n j, by first | rfl | (simp [hnx]; done), by unfold Tab.nxt; split <;> omega, by rw [HN.out]; exact HX, ⟨by have := HK.out; omega⟩, ⟨_, rfl⟩⟩
set_option maxRecDepth 100000 in
set_option maxHeartbeats 4000000 in
theorem lookup_rows_find.calls_none {g o : Nat} {cs : Array Value} {r : Tab.Rw} {key : Int} {w : World} (hR : Tab.RwAt 111 107 w g o cs r) (ha : r = Tab.none_) :
    Calls Try.prog 85 #[.pointer (some ⟨g, o, none⟩), .int .u64 key] w fun e w' => e = .returned (.tuple #[.int .i64 0, .bool false]) ∧ ∃ nd, w' = w.drewN nd := by
  have hc1 : w.cell? ⟨g, o + 1, none⟩ = some (.slice none 0 0) := ((blk_cell hR.blk _).trans hR.c1).trans (by rw [ha]; rfl)
  clear hR ha
  go_enter Try.func85, Try.ntmps85
  go_wp2
  go_ret2
  exact ⟨rfl, 0, rfl⟩
/-- What a search in slots comes to. -/
theorem lookup_rows_find.any {g o : Nat} {cs : Array Value} {r : Tab.Rw} {w : World} (hR : Tab.RwAt 111 107 w g o cs r) (h : r = Tab.none_ ∨ Tab.Fit r ∧ Tab.Inv (tabHome r.bits) r.sl) (key : Int) :
    ∃ (i : Nat) (b : Bool), (b = true → i < r.sl.length ∧ (Tab.at_ r.sl i).t = true ∧ (Tab.at_ r.sl i).k = key) ∧ (b = false → ∀ p, p < r.sl.length → (Tab.at_ r.sl p).t = true → (Tab.at_ r.sl p).k ≠ key) ∧
      ∀ nd, Calls Try.prog 85 #[.pointer (some ⟨g, o, none⟩), .int .u64 key] (w.drewN nd) fun e w' => e = .returned (.tuple #[.int .i64 (i : Int), .bool b]) ∧ ∃ nd, w' = w.drewN nd := by
  rcases h with h | ⟨h1, h2⟩
  · refine ⟨0, false, fun h => absurd h (by simp), fun _ p hp => absurd hp (by rw [h]; simp [Tab.none_]), fun nd => ?_⟩
    refine (lookup_rows_find.calls_none (hR.drewN nd) h).mono ?_
    rintro e w' ⟨rfl, m, rfl⟩
    exact ⟨rfl, _, World.drewN_drewN _ _ _⟩
  · obtain ⟨i, b, p1, p2, p3, p4⟩ := Tab.probe_from h2 key
    refine ⟨i, b, fun h => ⟨p2, p3 h⟩, fun h => (p4 h).2.2, fun nd => ?_⟩
    refine (lookup_rows_find.calls (hR.drewN nd) h1 p1).mono ?_
    rintro e w' ⟨rfl, m, rfl⟩
    exact ⟨rfl, _, World.drewN_drewN _ _ _⟩
theorem tinv_any {sk : Nat} {t : Tab.Tb} (hI : Tab.TInv tabHome sk t) : t.old = Tab.none_ ∨ Tab.Fit t.old ∧ Tab.Inv (tabHome t.old.bits) t.old.sl := by
  rcases hI.old with ⟨h, _⟩ | h
  · exact .inl h
  · exact .inr ⟨h.fit, h.inv⟩


/-! ### lookup_rows_put: function 87 -/
-- by hand
set_option maxRecDepth 100000 in
set_option maxHeartbeats 4000000 in
theorem lookup_rows_put.calls {f g o : Nat} {cs : Array Value} {r : Tab.Rw} {key node : Int} {i : Nat} {b : Bool} {w : World} (hR : Tab.RwAt 111 107 w g o cs r) (hF : Tab.Fit r) (hf : Tab.probe r.sl key f (tabHome r.bits key) = some (i, b)) (hi : i < r.sl.length) (hm0 : 0 ≤ r.many) (hm1 : r.many ≤ 1099511627776) :
    Calls Try.prog 87 #[.pointer (some ⟨g, o, none⟩), .int .u64 key, .int .i32 node] w fun e w' => e = .returned (.bool (!b)) ∧ ∃ cs', Tab.RwAt 111 107 w' g o cs' { r with sl := r.sl.set i ⟨key, node, true⟩, many := if b = true then r.many else r.many + 1 } ∧
      (∀ j, j ≠ o + 2 → cs'[j]? = cs[j]?) ∧ Mut (Tab.Rw.foot g r) w (Tab.Rw.foot g r) w' := by
  have HR := Aside0.mk hR
  have HF := Aside0.mk hF
  have HP := Aside0.mk hf
  obtain ⟨A, hA⟩ := Option.ne_none_iff_exists'.1 hF.adr
  obtain ⟨hAr, hAg⟩ := hR.arr A hA
  have HA := Aside0.mk hAr
  have HAD := Aside0.mk hA
  obtain ⟨n, hn⟩ : ∃ n, n = r.sl.length := ⟨_, rfl⟩
  have HN := Aside0.mk hn
  have hv : r.val = .slice (some ⟨A, 0, none⟩) n n := by unfold Tab.Rw.val; rw [hA, hn]; rfl
  have hc1 : ∀ nd, (w.drewN nd).cell? ⟨g, o + 1, none⟩ = some (.slice (some ⟨A, 0, none⟩) n n) := fun nd => ((blk_cell hR.blk _).trans hR.c1).trans (by rw [hv])
  have hc2 : ∀ nd, (w.drewN nd).cell? ⟨g, o + 2, none⟩ = some (.int .i64 r.many) := fun nd => (blk_cell hR.blk _).trans hR.c2
  have hf2 : ∀ nd, (w.drewN nd).frozen? ⟨g, o + 2, none⟩ = false := fun nd => blk_frozen hR.blk _
  have hcA := Tab.arr_cell hAr hi
  have hs0 : ∀ nd, (w.drewN nd).cell? ⟨A, i * 3, none⟩ = some (.int .u64 (Tab.at_ r.sl i).k) := fun nd => hcA.1
  have hs1 : ∀ nd, (w.drewN nd).cell? ⟨A, i * 3 + 1, none⟩ = some (.int .i32 (Tab.at_ r.sl i).n) := fun nd => hcA.2.1
  have hs2 : ∀ nd, (w.drewN nd).cell? ⟨A, i * 3 + 2, none⟩ = some (.bool (Tab.at_ r.sl i).t) := fun nd => hcA.2.2
  have hfA : ∀ nd j, (w.drewN nd).frozen? ⟨A, j, none⟩ = false := fun nd j => blk_frozen hAr j
  have hAg' := Ne.symm hAg
  rw [← hn] at hi
  have hi0 : (0 : Int) ≤ (i : Int) := by omega
  have hi1 : (i : Int) < (n : Int) := by omega
  clear hR hF hf hv hn hA hAr hcA
  cases b with
  | true =>
    go_enter Try.func87, Try.ntmps87
    go_wp2_with (go_at_call 85; refine (lookup_rows_find.calls HR.out HF.out HP.out).mono ?_; rintro e w' ⟨rfl, ⟨nd, rfl⟩⟩)
    go_ret
    obtain ⟨q1, q2⟩ := (HR.out.drewN nd).slot HAD.out (show i < r.sl.length by rw [← HN.out]; exact hi) ⟨key, node, true⟩
    exact ⟨rfl, cs, q1, fun _ _ => rfl, ((Mut.refl _ w).drewN nd).trans (q2 _ (.inr HAD.out))⟩
  | false =>
    go_enter Try.func87, Try.ntmps87
    go_wp2_with (go_at_call 85; refine (lookup_rows_find.calls HR.out HF.out HP.out).mono ?_; rintro e w' ⟨rfl, ⟨nd, rfl⟩⟩)
    go_ret
    obtain ⟨q1, q2⟩ := (HR.out.drewN nd).slot HAD.out (show i < r.sl.length by rw [← HN.out]; exact hi) ⟨key, node, true⟩
    obtain ⟨q3, q4⟩ := q1.many_ (r.many + 1)
    exact ⟨rfl, _, q3, fun j hj => Array.getElem?_setIfInBounds_ne (Ne.symm hj), ((Mut.refl _ w).drewN nd).trans ((q2 _ (.inr HAD.out)).trans (q4 _ (.inl rfl)))⟩


/-! ### lookup_rows_clear: function 88 -/
-- by hand
set_option maxRecDepth 100000 in
set_option maxHeartbeats 8000000 in
theorem lookup_rows_clear.calls {f g o : Nat} {cs : Array Value} {r : Tab.Rw} {i : Nat} {S : List Sl} {w : World} (hR : Tab.RwAt 111 107 w g o cs r) (hF : Tab.Fit r) (hi : i < r.sl.length) (hc : Tab.clr (tabHome r.bits) f r.sl i (Tab.nxt r.sl.length i) = some S) (hm0 : 1 ≤ r.many) (hm1 : r.many ≤ 1099511627776) :
    Calls Try.prog 88 #[.pointer (some ⟨g, o, none⟩), .int .i64 (i : Int)] w fun e w' => e = .returned (.tuple #[]) ∧ ∃ cs', Tab.RwAt 111 107 w' g o cs' { r with sl := S, many := r.many - 1 } ∧
      (∀ j, j ≠ o + 2 → cs'[j]? = cs[j]?) ∧ Mut (Tab.Rw.foot g r) w (Tab.Rw.foot g r) w' := by
  have HF := Aside0.mk hF
  have HC := Aside0.mk hc
  obtain ⟨A, hA⟩ := Option.ne_none_iff_exists'.1 hF.adr
  have HAD := Aside0.mk hA
  have HAg := Aside0.mk (hR.arr A hA).2
  obtain ⟨n, hn⟩ : ∃ n, n = r.sl.length := ⟨_, rfl⟩
  have HN := Aside0.mk hn
  have hn1 : n ≤ 1073741824 := by rw [hn, hF.len]; exact Nat.pow_le_pow_right (by decide) hF.hi
  have hv : r.val = .slice (some ⟨A, 0, none⟩) n n := by unfold Tab.Rw.val; rw [hA, hn]; rfl
  obtain ⟨q3, q4⟩ := hR.many_ (r.many - 1)
  have HR1 := Aside0.mk q3
  have HM1 := Aside0.mk (q4 (Tab.Rw.foot g r) (.inl rfl))
  have hcs : ∀ j, j ≠ o + 2 → (cs.setIfInBounds (o + 2) (.int .i64 (r.many - 1)))[j]? = cs[j]? := fun j hj => Array.getElem?_setIfInBounds_ne (Ne.symm hj)
  have HCS := Aside0.mk hcs
  have hc2 : w.cell? ⟨g, o + 2, none⟩ = some (.int .i64 r.many) := (blk_cell hR.blk _).trans hR.c2
  have hf2 : w.frozen? ⟨g, o + 2, none⟩ = false := blk_frozen hR.blk _
  have hm := lookup_rows_mask.calls q3 (show r.sl.length ≤ _ by rw [← hn]; omega)
  simp only at hm
  rw [← hn] at hm
  have HM := Aside0.mk hm
  rw [← hn] at hi
  have hi2 : (i : Int) ≤ 1073741824 := by omega
  have hi0 : (0 : Int) ≤ (i : Int) := by omega
  have hwr : wrap64 ((i : Int) + 1) = (i : Int) + 1 := by unfold wrap64; omega
  have hnx := Tab.and_next (show r.sl.length = 2 ^ r.bits from hF.len) (Nat.le_trans hF.hi (by decide)) (show i < r.sl.length by rw [← hn]; exact hi)
  rw [← hn] at hnx
  have HNX := Aside0.mk (show Tab.nxt n i < n by unfold Tab.nxt; split <;> omega)
  clear hR hF hc hA hn hv q3 q4 hcs hm
  go_enter Try.func88, Try.ntmps88
  go_wp2_with (go_at_call 106; refine HM.out.mono ?_; rintro e w' ⟨rfl, rfl⟩)
  go_loopg [1, 4] f (fun kq v1 v4 w' => ∃ (i k : Nat) (s : List Sl), v1 = .int .i64 (i : Int) ∧ v4 = .int .i64 (k : Int) ∧ i < n ∧ k < n ∧ Aside0 (s.length = n) ∧ Aside0 (Tab.clr (tabHome r.bits) kq s i k = some S) ∧ Aside0 (kq ≤ f) ∧ Aside0 (Tab.RwAt 111 107 w' g o (cs.setIfInBounds (o + 2) (.int .i64 (r.many - 1))) { r with sl := s, many := r.many - 1 }) ∧ Aside0 (Mut (Tab.Rw.foot g r) w (Tab.Rw.foot g r) w'))
  case atStart => exact ⟨i, Tab.nxt n i, r.sl, rfl, by simp [hnx], hi, HNX.out, ⟨HN.out.symm⟩, ⟨by rw [HN.out]; exact HC.out⟩, ⟨Nat.le_refl _⟩, HR1, HM1⟩
  case round =>
    clear hnx hwr hi hi2 hi0
    obtain ⟨i, k, s, rfl, rfl, hi, hk, HSL, HX, HK, HR, HMU⟩ := hrel
    have hsl := HSL.out
    have hv : Tab.Rw.val { r with sl := s, many := r.many - 1 } = .slice (some ⟨A, 0, none⟩) n n := by unfold Tab.Rw.val; simp only [HAD.out, hsl]; rfl
    have hc0 := (blk_cell HR.out.blk o).trans HR.out.c0
    have hc1 := ((blk_cell HR.out.blk (o + 1)).trans HR.out.c1).trans (congrArg some hv)
    simp only at hc0
    have hAr := (HR.out.arr A HAD.out).1
    obtain ⟨hk0, hk1, hk2⟩ := Tab.arr_cell hAr (show k < s.length by rw [hsl]; exact hk)
    obtain ⟨hi0, hi1, hi2⟩ := Tab.arr_cell hAr (show i < s.length by rw [hsl]; exact hi)
    have hfA : ∀ j, wr.frozen? ⟨A, j, none⟩ = false := fun j => blk_frozen hAr j
    have hkz : (0 : Int) ≤ (k : Int) := by omega
    have hkn : (k : Int) < (n : Int) := by omega
    have hkm : (k : Int) ≤ 1073741824 := by omega
    have hiz : (0 : Int) ≤ (i : Int) := by omega
    have hin : (i : Int) < (n : Int) := by omega
    have him : (i : Int) ≤ 1073741824 := by omega
    simp only at hk0 hk1 hk2 hi0 hi1 hi2
    clear hv hAr hsl
    cases gk with
    | zero => exact absurd HX.out (by simp [Tab.clr])
    | succ k1 =>
      have hp := HX.out
      simp only [Tab.clr] at hp
      obtain ⟨t, ht⟩ : ∃ t, t = (Tab.at_ s k).t := ⟨_, rfl⟩
      rw [← ht] at hp hk2
      have HT := Aside0.mk ht
      clear ht
      cases t with
      | false =>
        rw [if_neg (by simp)] at hp
        have HP := Aside0.mk hp
        clear hp HX
        go_wp2
        obtain ⟨q1, q2⟩ := HR.out.slot HAD.out (show i < s.length by rw [HSL.out]; exact hi) Tab.z
        go_end0
        refine ⟨rfl, _, ?_, HCS.out, HMU.out.trans (q2 _ (.inr HAD.out))⟩
        rw [← Option.some.inj HP.out]
        exact q1
      | true =>
        rw [if_pos rfl] at hp
        have HP := Aside0.mk hp
        clear hp HX
        obtain ⟨hh, hlt⟩ := tabHome_is r.bits (Tab.at_ s k).k HF.out.lo HF.out.hi
        have HH := Aside0.mk hh
        clear hh
        have hm2 : ∀ nd, Calls Try.prog 106 #[.pointer (some ⟨g, o, none⟩)] (wr.drewN nd) fun e w' => e = .returned (.int .i64 ((n : Int) - 1)) ∧ w' = wr.drewN nd := fun nd => by
          have := lookup_rows_mask.calls (HR.out.drewN nd) (show s.length ≤ _ by rw [HSL.out]; omega)
          refine this.mono ?_
          rintro e w' ⟨rfl, rfl⟩
          refine ⟨?_, rfl⟩
          show Ending.returned (.int .i64 ((s.length : Int) - 1)) = _
          rw [HSL.out]
        have HM2 := Aside0.mk hm2
        obtain ⟨hm, hhm⟩ : ∃ hm, hm = tabHome r.bits (Tab.at_ s k).k := ⟨_, rfl⟩
        rw [← hhm] at hlt HH
        have HHM := Aside0.mk hhm
        have hlt2 : (hm : Int) ≤ 1073741824 := by have := HN.out.trans HF.out.len; omega
        have w1 : wrap64 ((k : Int) - (hm : Int)) = (k : Int) - (hm : Int) := by unfold wrap64; omega
        have w2 : wrap64 ((k : Int) - (i : Int)) = (k : Int) - (i : Int) := by unfold wrap64; omega
        have w3 : wrap64 ((k : Int) + 1) = (k : Int) + 1 := by unfold wrap64; omega
        have HNX2 := Aside0.mk (show Tab.nxt n k < n by unfold Tab.nxt; split <;> omega)
        have hp := HP.out
        rw [HSL.out, ← hhm] at hp
        clear hhm HP
        by_cases hge : Tab.dst n k i ≤ Tab.dst n k hm
        · rw [if_pos hge] at hp
          have HP := Aside0.mk hp
          have g1 : decide (Tab.dst n k i ≤ Tab.dst n k hm) = true := decide_eq_true hge
          have g2 : decide ((Tab.dst n k i : Int) ≤ (Tab.dst n k hm : Int)) = true := decide_eq_true (by omega)
          clear hge hp
          have hd1 := Tab.and_dst (n := n) (HN.out.trans HF.out.len) (Nat.le_trans HF.out.hi (by decide)) hk (show hm < n by rw [HN.out, HF.out.len]; exact hlt)
          have hd2 := Tab.and_dst (n := n) (HN.out.trans HF.out.len) (Nat.le_trans HF.out.hi (by decide)) hk hi
          have hd3 := Tab.and_next (n := n) (HN.out.trans HF.out.len) (Nat.le_trans HF.out.hi (by decide)) hk
          go_wp2
          go_quiet ((go_at_call 81; refine (mix_Slot.calls _ _ _ _ HH.out).mono ?_; rintro e w' ⟨rfl, ⟨nd, rfl⟩⟩; exact ⟨rfl, _, World.drewN_drewN _ _ _⟩))
          go_wp2_with (go_at_call 106; refine (HM2.out _).mono ?_; rintro e w' ⟨rfl, rfl⟩)
          refine region_tail 13 (by kernel_rfl) (by kernel_rfl) (fun W2 HW2 => ?_)
          simp only [List.take_succ_cons, List.take_zero, List.drop_succ_cons, List.drop_zero]
          have hc1N : W2.cell? ⟨g, o + 1, none⟩ = some (.slice (some ⟨A, 0, none⟩) n n) := by rw [HW2.out]; exact hc1
          have hkN0 : W2.cell? ⟨A, k * 3, none⟩ = some (.int .u64 (Tab.at_ s k).k) := by rw [HW2.out]; exact hk0
          have hkN1 : W2.cell? ⟨A, k * 3 + 1, none⟩ = some (.int .i32 (Tab.at_ s k).n) := by rw [HW2.out]; exact hk1
          have hkN2 : W2.cell? ⟨A, k * 3 + 2, none⟩ = some (.bool true) := by rw [HW2.out]; exact hk2
          have hiN0 : W2.cell? ⟨A, i * 3, none⟩ = some (.int .u64 (Tab.at_ s i).k) := by rw [HW2.out]; exact hi0
          have hiN1 : W2.cell? ⟨A, i * 3 + 1, none⟩ = some (.int .i32 (Tab.at_ s i).n) := by rw [HW2.out]; exact hi1
          have hiN2 : W2.cell? ⟨A, i * 3 + 2, none⟩ = some (.bool (Tab.at_ s i).t) := by rw [HW2.out]; exact hi2
          have hfN : ∀ j, W2.frozen? ⟨A, j, none⟩ = false := fun j => by rw [HW2.out]; exact hfA j
          repeat still_step
          refine wpStill_nil ?_
          have hRW : Tab.RwAt 111 107 W2 g o (cs.setIfInBounds (o + 2) (.int .i64 (r.many - 1))) { r with sl := s, many := r.many - 1 } := by
            rw [HW2.out]
            exact (HR.out.drewN _).drew
          have hMW : Mut (Tab.Rw.foot g r) w (Tab.Rw.foot g r) W2 := by
            rw [HW2.out]
            exact (HMU.out.drewN _).drew
          have hat : Tab.at_ s k = ⟨(Tab.at_ s k).k, (Tab.at_ s k).n, true⟩ := by rw [HT.out]
          obtain ⟨q1, q2⟩ := hRW.slot HAD.out (show i < s.length by rw [HSL.out]; exact hi) ⟨(Tab.at_ s k).k, (Tab.at_ s k).n, true⟩
          have hm3 := (lookup_rows_mask.calls q1 (show (s.set i _).length ≤ _ by rw [List.length_set, HSL.out]; clear hd1 hd2 hd3; omega)).mono (R' := fun e w' => e = .returned (.int .i64 ((n : Int) - 1)) ∧ w' = W2.setCells A (i * 3) (Tab.enc ⟨(Tab.at_ s k).k, (Tab.at_ s k).n, true⟩)) (by
            rintro e w' ⟨rfl, rfl⟩
            refine ⟨?_, rfl⟩
            show Ending.returned (.int .i64 (((s.set i _).length : Int) - 1)) = _
            rw [List.length_set, HSL.out])
          have HM3 := Aside0.mk hm3
          have HQ1 := Aside0.mk q1
          have HQ2 := Aside0.mk (hMW.trans (q2 (Tab.Rw.foot g r) (.inr HAD.out)))
          have HAT := Aside0.mk hat
          clear hRW hMW hat q1 q2 hm3
          go_wp2_with (go_at_call 106; refine HM3.out.mono ?_; rintro e w' ⟨rfl, rfl⟩)
          go_roundg k1
          case measure =>
            clear hd1 hd2 hd3
            have := HK.out
            omega
          case rel =>
            refine ⟨k, Tab.nxt n k, s.set i ⟨(Tab.at_ s k).k, (Tab.at_ s k).n, true⟩, rfl, by first | rfl | (simp [hd3]; done), hk, HNX2.out, ⟨by rw [List.length_set]; exact HSL.out⟩, ⟨?_⟩, ⟨Nat.le_of_succ_le HK.out⟩, HQ1, HQ2⟩
            rw [← HAT.out]
            exact HP.out
        · rw [if_neg hge] at hp
          have HP := Aside0.mk hp
          have g1 : decide (Tab.dst n k i ≤ Tab.dst n k hm) = false := decide_eq_false hge
          have g2 : decide ((Tab.dst n k i : Int) ≤ (Tab.dst n k hm : Int)) = false := decide_eq_false (by omega)
          clear hge hp
          have hd1 := Tab.and_dst (n := n) (HN.out.trans HF.out.len) (Nat.le_trans HF.out.hi (by decide)) hk (show hm < n by rw [HN.out, HF.out.len]; exact hlt)
          have hd2 := Tab.and_dst (n := n) (HN.out.trans HF.out.len) (Nat.le_trans HF.out.hi (by decide)) hk hi
          have hd3 := Tab.and_next (n := n) (HN.out.trans HF.out.len) (Nat.le_trans HF.out.hi (by decide)) hk
          go_wp2
          go_quiet ((go_at_call 81; refine (mix_Slot.calls _ _ _ _ HH.out).mono ?_; rintro e w' ⟨rfl, ⟨nd, rfl⟩⟩; exact ⟨rfl, _, World.drewN_drewN _ _ _⟩))
          go_wp2_with (go_at_call 106; refine (HM2.out _).mono ?_; rintro e w' ⟨rfl, rfl⟩)
          go_roundg k1
          case measure =>
            clear hd1 hd2 hd3
            have := HK.out
            omega
          case rel => exact ⟨i, Tab.nxt n k, s, rfl, by first | rfl | (simp [hd3]; done), hi, HNX2.out, HSL, HP, ⟨Nat.le_of_succ_le HK.out⟩, ⟨HR.out.drewN _⟩, ⟨HMU.out.drewN _⟩⟩

end Go.Proofs.Ytdjbpdahdakfjaa.PLook
