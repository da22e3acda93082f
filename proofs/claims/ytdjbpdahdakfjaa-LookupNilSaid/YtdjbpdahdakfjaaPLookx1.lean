-- Written by a program of this session (a turned copy of the kit's printer, texts of this session's own for functions that it does not take).
import Derived.Test.YtdjbpdahdakfjaaPLookx0
namespace Go.Proofs.Ytdjbpdahdakfjaa.PLook
open Go.RowKit Go.Proofs.YtdjbpdahdakfjaaH Go.Proofs.YtdjbpdahdakfjaaW.PrintWords Go.Proofs.YtdjbpdahdakfjaaW.PrintLast Go.Proofs.YtdjbpdahdakfjaaW.PrintMore
attribute [local go_sem] max2_int min2_int max_two min_two max_three min_three max_four min_four   -- for this text's walks alone
set_option linter.unusedVariables false
set_option linter.unusedSimpArgs false


/-! ### lookup_fresh: function 83 -/
-- by hand
theorem shl_pow (b : Nat) (hb : b ≤ 30) : IntKind.i64.wrap (2 ^ b) = ((2 ^ b : Nat) : Int) ∧ wrap64 (2 ^ b) = ((2 ^ b : Nat) : Int) := by
  have hp : (2 : Nat) ^ b ≤ 2 ^ 30 := Nat.pow_le_pow_right (by decide) hb
  have hc : (2 : Int) ^ b = ((2 ^ b : Nat) : Int) := by simp
  rw [hc]
  generalize 2 ^ b = q at hp
  constructor
  · rw [IntKind.wrap_i64]; omega
  · unfold wrap64; omega
set_option maxRecDepth 100000 in
set_option maxHeartbeats 4000000 in
theorem lookup_fresh.calls {b : Nat} {w : World} (hb : b ≤ 30) :
    Calls Try.prog 83 #[.int .i64 (b : Int)] w fun e w' => ∃ A, e = .returned (.agg #[.int .i64 (b : Int), .slice (some ⟨A, 0, none⟩) (2 ^ b) (2 ^ b), .int .i64 0]) ∧ Arr Tab.enc w' A 111 (List.replicate (2 ^ b) Tab.z) ∧ w.heap.size ≤ A ∧ Below w.heap.size w w' := by
  obtain ⟨n, hn⟩ : ∃ n, n = 2 ^ b := ⟨_, rfl⟩
  obtain ⟨s1, s2⟩ := shl_pow b hb
  rw [← hn] at s1 s2 ⊢
  have s3 : IntKind.i64.wrap (1 * 2 ^ b) = (n : Int) := by rw [Int.one_mul]; exact s1
  have s4 : wrap64 (1 * 2 ^ b) = (n : Int) := by rw [Int.one_mul]; exact s2
  have hn1 : n ≤ 1073741824 := by rw [hn]; exact Nat.pow_le_pow_right (by decide) hb
  have HN := Aside0.mk hn
  clear hn
  have hb' : (b : Int) ≤ 30 := by omega
  have m1 : min b 64 = b := Nat.min_eq_left (by omega)
  have u1 : IntKind.u64.wrap (b : Int) = (b : Int) := by rw [IntKind.wrap_u64]; omega
  obtain ⟨i0, hi0, hzz⟩ := Option.map_eq_some_iff.1 (show (Try.prog.info? 111).map (fun i => (i.zero, i.size, i.bytes)) = some (some (.agg #[.int .u64 0, .int .i32 0, .bool false]), 3, 16) by kernel_rfl)
  simp only [Prod.mk.injEq] at hzz
  obtain ⟨hz0, hz1, hz2⟩ := hzz
  have hmk : ∀ W : World, (Instr.makeSlice 102 (.int .i64 (n : Int)) (.int .i64 (n : Int))).run Try.prog W = .ok (.slice (some ⟨W.heap.size, 0, none⟩) n n) (W.alloc (.cells (madeCells #[.int .u64 0, .int .i32 0, .bool false] (n * 3)) 111)) := fun W => by
    have := run_make W 102 111 i0 _ Try.underlying102 hi0 hz0 .i64 .i64 (n : Int) (n : Int) (by omega) (by omega) (by rw [hz2]; omega) (by omega)
    rw [hz1] at this
    simpa [Value.cells] using this
  clear hi0 hz0 hz1 hz2
  go_enter Try.func83, Try.ntmps83
  go_wp2
  refine bodyPost_ret (v := .agg #[.int .i64 (b : Int), .slice (some ⟨w.heap.size + 1, 0, none⟩) n n, .int .i64 0]) (by simp [results, Try.results83, go_sem]) rfl ⟨_, rfl, ?_, by omega, ((Below.refl w.heap.size w).alloc (Nat.le_refl _) _).alloc (by simp) _⟩
  refine Tab.arr_made ?_
  have := blk_new (w.alloc (.cells #[.int .i64 (b : Int), .slice (some ⟨w.heap.size + 1, 0, none⟩) n n, .int .i64 0] 104)) (.cells (madeCells #[.int .u64 0, .int .i32 0, .bool false] (n * 3)) 111)
  simpa using this
theorem lookup_fresh.calls_succ {b : Nat} {w : World} (hb : b < 30) :
    Calls Try.prog 83 #[.int .i64 ((b : Int) + 1)] w fun e w' => ∃ A, e = .returned (.agg #[.int .i64 ((b : Int) + 1), .slice (some ⟨A, 0, none⟩) (2 ^ (b + 1)) (2 ^ (b + 1)), .int .i64 0]) ∧ Arr Tab.enc w' A 111 (List.replicate (2 ^ (b + 1)) Tab.z) ∧ w.heap.size ≤ A ∧ Below w.heap.size w w' :=
  lookup_fresh.calls (b := b + 1) hb


/-! ### lookup_New: function 45 -/
-- by hand
set_option maxRecDepth 100000 in
set_option maxHeartbeats 4000000 in
theorem lookup_New.calls {home : Nat → Int → Nat} (hh : ∀ x, home 3 x < 8) {w : World} :
    Calls Try.prog 45 #[] w fun e w' => ∃ g cs t, e = .returned (.pointer (some ⟨g, 0, none⟩)) ∧ Tab.TbAt 111 107 w' g cs t ∧ Tab.TInv home 0 t ∧ (∀ k v, ¬ t.has k v) ∧ t.moves = 0 ∧ t.len = 0 ∧ t.now.sl.length = 8 ∧ (∀ k, t.foot g k → w.heap.size ≤ k) ∧ Below w.heap.size w w' := by
  go_enter Try.func45, Try.ntmps45
  go_wp2_with (go_at_call 83; refine (lookup_fresh.calls (b := 3) (by decide)).mono ?_; rintro e w1 ⟨A, rfl, hA, hle, hb⟩; have HA := Aside0.mk hA; have HLE := Aside0.mk hle; have HB := Aside0.mk hb; clear hA hle hb)
  go_ret
  have hlt : A < w1.heap.size := HA.out.lt
  have hT : Tab.TbAt 111 107 _ w1.heap.size _ ⟨⟨3, some A, List.replicate 8 Tab.z, 0⟩, Tab.none_, 0, 0⟩ :=
    Tab.TbAt.of (w := w1.alloc (.cells #[.int .i64 3, .slice (some ⟨A, 0, none⟩) 8 8, .int .i64 0, .int .i64 0, .slice none 0 0, .int .i64 0, .int .i64 0, .int .u64 0] 107)) (blk_new w1 _)
      (fun B hB => by
        obtain rfl : A = B := Option.some.inj hB
        exact ⟨HA.out.far (Below.heap_alloc _ _ _ hlt), by omega⟩)
      (fun B hB => absurd hB (by simp [Tab.none_])) (fun h => absurd h (by simp)) (fun _ => rfl) (fun B _ => by simp [Tab.none_])
  refine ⟨_, _, _, rfl, hT, Tab.TInv.new hh A, fun k v h => ?_, rfl, ?_, by simp, fun k hk => ?_, HB.out.alloc (HB.out.size) _⟩
  · rcases h with h | h
    · exact Tab.not_has (Tab.cnt_rep 8) k v h
    · exact Tab.not_has rfl k v h
  · show Tab.cnt _ + Tab.cnt ([] : List Sl) = 0
    rw [Tab.cnt_rep]
    rfl
  · have hs := HB.out.size
    have hl := HLE.out
    rcases hk with rfl | hk | hk
    · exact hs
    · obtain rfl : A = k := Option.some.inj hk
      exact hl
    · exact absurd hk (by simp [Tab.none_])


/-! ### lookup_Table_Len: function 47 -/
-- by hand
set_option maxRecDepth 100000 in
set_option maxHeartbeats 4000000 in
theorem lookup_Table_Len.calls {home : Nat → Int → Nat} {g sk : Nat} {cs : Array Value} {t : Tab.Tb} {w : World} (hT : Tab.TbAt 111 107 w g cs t) (hI : Tab.TInv home sk t) (hk : t.now.sl.length ≤ 1099511627776) :
    Calls Try.prog 47 #[.pointer (some ⟨g, 0, none⟩)] w fun e w' => e = .returned (.int .i64 (t.len : Int)) ∧ ∃ nd, w' = w.drewN nd := by
  have hc2 : w.cell? ⟨g, 2, none⟩ = some (.int .i64 (Tab.cnt t.now.sl : Int)) := ((blk_cell hT.now.blk 2).trans hT.now.c2).trans (by rw [hI.many])
  have hom := (Tab.MvInv.start hI).oldMany
  have hc5 : w.cell? ⟨g, 5, none⟩ = some (.int .i64 (Tab.cnt t.old.sl : Int)) := ((blk_cell hT.old.blk 5).trans hT.old.c2).trans (by rw [hom])
  have hl := hI.load
  have hl1 : t.len = Tab.cnt t.now.sl + Tab.cnt t.old.sl := rfl
  rw [hl1] at hl ⊢
  clear hom hI hT hl1
  generalize Tab.cnt t.now.sl = a at hl hc2 ⊢
  generalize Tab.cnt t.old.sl = b at hl hc5 ⊢
  have ha : (a : Int) ≤ 1099511627776 := by omega
  have hb : (b : Int) ≤ 1099511627776 := by omega
  have ha0 : (0 : Int) ≤ (a : Int) := by omega
  have hb0 : (0 : Int) ≤ (b : Int) := by omega
  clear hl hk
  go_enter Try.func47, Try.ntmps47
  go_wp2
  go_quiet (fail)
  go_wp2
  go_ret
  exact ⟨by simp, _, rfl⟩
set_option maxRecDepth 100000 in
set_option maxHeartbeats 4000000 in
theorem lookup_Table_Len.nil (w : World) : Calls Try.prog 47 #[.pointer none] w fun e w' => e = .returned (.int .i64 0) ∧ w' = w := by
  go_enter Try.func47, Try.ntmps47
  go_wp2
  go_ret
  exact ⟨rfl, rfl⟩

/-! ### mix_shift: function 97 -/
def mix_shift.f (a0 : Int) (a1 : Int) : Option (Int) := if 0 ≤ a1 then (some (Go.bits .xor .u64 a0 (shr .u64 a0 a1))) else (none)
set_option maxHeartbeats 8000000 in
set_option maxRecDepth 100000 in
theorem mix_shift.calls (a0 : Int) (a1 : Int) (r : Int) (w : World) (h : mix_shift.f a0 a1 = some r) :
    Calls Try.prog 97 #[.int .u64 a0, .int .u64 a1] w fun e w' => e = .returned (.int .u64 r) ∧ Drawn0 w w' := by
  have H : (if 0 ≤ a1 then (some (Go.bits .xor .u64 a0 (shr .u64 a0 a1))) else (none)) = some r := h
  clear h
  by_cases c3 : 0 ≤ a1
  · rw [if_pos c3] at H
    have c3b0 := eq_true c3
    have c3b1 : decide (0 ≤ a1) = true := decide_eq_true c3
    clear c3
    obtain ⟨ji4, hji4⟩ : ∃ j_ : Int, (shr .u64 a0 a1) = j_ := ⟨_, rfl⟩
    replace H : (some (Go.bits .xor .u64 a0 (ji4))) = some r := by first | (rw [hji4] at H; exact H) | (simp only [hji4] at H ⊢; exact H)
    have hji4_ : (a0 / 2 ^ min a1.toNat 64) = ji4 := hji4
    have hji4z : a1 ≤ 64 → (a0 / 2 ^ a1.toNat) = ji4 := shr_small hji4
    obtain rfl := Option.some.inj H
    go_enter Try.func97, Try.ntmps97
    go_wp2
    go_ret
    exact ⟨by first | rfl | (simp; done) | (simp only [← hji4] <;> (first | rfl | simp)) | (simp [*]; done), by repeat (first | exact Drawn0.refl _ | apply Drawn0.step)⟩
  · rw [if_neg c3] at H
    exact absurd H (by simp)

/-! ### mix_Mix: function 65 -/
def mix_Mix.f (a0 : Int) : Option (Int) := (mix_shift.f a0 30).bind fun t101 => ((mix_shift.f (IntKind.u64.wrap (t101 * 13787848793156543929)) 27).bind fun t102 => ((mix_shift.f (IntKind.u64.wrap (t102 * 10723151780598845931)) 31).bind fun t103 => (some t103)))
set_option maxHeartbeats 8000000 in
set_option maxRecDepth 100000 in
theorem mix_Mix.calls (a0 : Int) (r : Int) (w : World) (h : mix_Mix.f a0 = some r) :
    Calls Try.prog 65 #[.int .u64 a0] w fun e w' => e = .returned (.int .u64 r) ∧ Drawn0 w w' := by
  have H : ((mix_shift.f a0 30).bind fun t101 => ((mix_shift.f (IntKind.u64.wrap (t101 * 13787848793156543929)) 27).bind fun t102 => ((mix_shift.f (IntKind.u64.wrap (t102 * 10723151780598845931)) 31).bind fun t103 => (some t103)))) = some r := h
  clear h
  replace H := Option.bind_eq_some_iff.mp H
  obtain ⟨t101, A20, H⟩ := H
  replace H : ((mix_shift.f (IntKind.u64.wrap (t101 * 13787848793156543929)) 27).bind fun t102 => ((mix_shift.f (IntKind.u64.wrap (t102 * 10723151780598845931)) 31).bind fun t103 => (some t103))) = some r := H
  have A2 := Aside0.mk A20
  clear A20
  replace H := Option.bind_eq_some_iff.mp H
  obtain ⟨t102, A30, H⟩ := H
  replace H : ((mix_shift.f (IntKind.u64.wrap (t102 * 10723151780598845931)) 31).bind fun t103 => (some t103)) = some r := H
  have A3 := Aside0.mk A30
  clear A30
  replace H := Option.bind_eq_some_iff.mp H
  obtain ⟨t103, A40, H⟩ := H
  replace H : (some t103) = some r := H
  have A4 := Aside0.mk A40
  clear A40
  obtain rfl := Option.some.inj H
  go_enter Try.func65, Try.ntmps65
  go_wp2_with (first | ((with_reducible refine gate_callee (f := 97) rfl ?_); refine goesL_ (some 4) rfl rfl Try.func97 (by kernel_rfl) rfl #[.int .u64 a0, .int .u64 30] rfl (by (try simp only [List.map_toArray, List.map_cons, List.map_nil]); first | done | rfl | (simp only [List.length_drop, List.length_take]; rfl)) ?_; (with_reducible refine (mix_shift.calls a0 30 t101 _ A2.out).mono ?_); rintro e w' ⟨rfl, ⟨nd, rfl⟩⟩; refine ⟨_, rfl, ?_⟩) | ((with_reducible refine gate_callee (f := 97) rfl ?_); refine goesL_ (some 7) rfl rfl Try.func97 (by kernel_rfl) rfl #[.int .u64 (IntKind.u64.wrap (t101 * 13787848793156543929)), .int .u64 27] rfl (by (try simp only [List.map_toArray, List.map_cons, List.map_nil]); first | done | rfl | (simp only [List.length_drop, List.length_take]; rfl)) ?_; (with_reducible refine (mix_shift.calls (IntKind.u64.wrap (t101 * 13787848793156543929)) 27 t102 _ A3.out).mono ?_); rintro e w' ⟨rfl, ⟨nd, rfl⟩⟩; refine ⟨_, rfl, ?_⟩) | ((with_reducible refine gate_callee (f := 97) rfl ?_); refine goesL_ (some 10) rfl rfl Try.func97 (by kernel_rfl) rfl #[.int .u64 (IntKind.u64.wrap (t102 * 10723151780598845931)), .int .u64 31] rfl (by (try simp only [List.map_toArray, List.map_cons, List.map_nil]); first | done | rfl | (simp only [List.length_drop, List.length_take]; rfl)) ?_; (with_reducible refine (mix_shift.calls (IntKind.u64.wrap (t102 * 10723151780598845931)) 31 t103 _ A4.out).mono ?_); rintro e w' ⟨rfl, ⟨nd, rfl⟩⟩; refine ⟨_, rfl, ?_⟩))
  go_ret
  exact ⟨by first | rfl | (simp; done) | (simp [*]; done), by repeat (first | exact Drawn0.refl _ | apply Drawn0.step)⟩

/-! ### mix_Slot: function 81 -/
def mix_Slot.f (a0 : Int) (a1 : Int) : Option (Int) := if a1 < 1 then (some 0) else (if a1 > 30 then (some 0) else ((mix_Mix.f a0).bind fun t104 => (if 0 ≤ (IntKind.u64.wrap (wrap64 (64 - a1))) then (some (wrap64 (shr .u64 t104 (IntKind.u64.wrap (wrap64 (64 - a1)))))) else (none))))
set_option maxHeartbeats 8000000 in
set_option maxRecDepth 100000 in
theorem mix_Slot.calls (a0 : Int) (a1 : Int) (r : Int) (w : World) (h : mix_Slot.f a0 a1 = some r) :
    Calls Try.prog 81 #[.int .u64 a0, .int .i64 a1] w fun e w' => e = .returned (.int .i64 r) ∧ Drawn0 w w' := by
  have H : (if a1 < 1 then (some 0) else (if a1 > 30 then (some 0) else ((mix_Mix.f a0).bind fun t104 => (if 0 ≤ (IntKind.u64.wrap (wrap64 (64 - a1))) then (some (wrap64 (shr .u64 t104 (IntKind.u64.wrap (wrap64 (64 - a1)))))) else (none))))) = some r := h
  clear h
  by_cases c3 : a1 < 1
  · rw [if_pos c3] at H
    have c3b0 : decide (a1 < 1) = true := decide_eq_true c3
    clear c3
    obtain rfl := Option.some.inj H
    go_enter Try.func81, Try.ntmps81
    go_wp2
    go_ret
    exact ⟨by first | rfl | (simp; done) | (simp [*]; done), by repeat (first | exact Drawn0.refl _ | apply Drawn0.step)⟩
  · rw [if_neg c3] at H
    have c3b0 : decide (a1 < 1) = false := decide_eq_false c3
    clear c3
    by_cases c4 : a1 > 30
    · rw [if_pos c4] at H
      have c4b0 : decide (30 < a1) = true := decide_eq_true c4
      clear c4
      obtain rfl := Option.some.inj H
      go_enter Try.func81, Try.ntmps81
      go_wp2
      go_ret
      exact ⟨by first | rfl | (simp; done) | (simp [*]; done), by repeat (first | exact Drawn0.refl _ | apply Drawn0.step)⟩
    · rw [if_neg c4] at H
      have c4b0 : decide (30 < a1) = false := decide_eq_false c4
      clear c4
      replace H := Option.bind_eq_some_iff.mp H
      obtain ⟨t104, A50, H⟩ := H
      replace H : (if 0 ≤ (IntKind.u64.wrap (wrap64 (64 - a1))) then (some (wrap64 (shr .u64 t104 (IntKind.u64.wrap (wrap64 (64 - a1)))))) else (none)) = some r := H
      have A5 := Aside0.mk A50
      clear A50
      obtain ⟨ji6, hji6⟩ : ∃ j_ : Int, (IntKind.u64.wrap (wrap64 (64 - a1))) = j_ := ⟨_, rfl⟩
      replace H : (if 0 ≤ (ji6) then (some (wrap64 (shr .u64 t104 (ji6)))) else (none)) = some r := by first | (rw [hji6] at H; exact H) | (simp only [hji6] at H ⊢; exact H)
      (try rw [hji6] at A5)
      by_cases c7 : 0 ≤ (ji6)
      · rw [if_pos c7] at H
        have c7b0 := eq_true c7
        have c7b1 : decide (0 ≤ (ji6)) = true := decide_eq_true c7
        clear c7
        obtain ⟨ji8, hji8⟩ : ∃ j_ : Int, (shr .u64 t104 (ji6)) = j_ := ⟨_, rfl⟩
        replace H : (some (wrap64 (ji8))) = some r := by first | (rw [hji8] at H; exact H) | (simp only [hji8] at H ⊢; exact H)
        (try rw [hji8] at A5)
        have hji8_ : (t104 / 2 ^ min (ji6).toNat 64) = ji8 := hji8
        have hji8z : (ji6) ≤ 64 → (t104 / 2 ^ (ji6).toNat) = ji8 := shr_small hji8
        obtain rfl := Option.some.inj H
        go_enter Try.func81, Try.ntmps81
        go_wp2_with (first | ((with_reducible refine gate_callee (f := 65) rfl ?_); refine goesL_ (some 12) rfl rfl Try.func65 (by kernel_rfl) rfl #[.int .u64 a0] rfl (by (try simp only [List.map_toArray, List.map_cons, List.map_nil]); first | done | rfl | (simp only [List.length_drop, List.length_take]; rfl)) ?_; (with_reducible refine (mix_Mix.calls a0 t104 _ A5.out).mono ?_); rintro e w' ⟨rfl, ⟨nd, rfl⟩⟩; refine ⟨_, rfl, ?_⟩))
        go_ret
        exact ⟨by first | rfl | (simp; done) | (simp only [← hji6, ← hji8] <;> (first | rfl | simp)) | (simp [*]; done), by repeat (first | exact Drawn0.refl _ | apply Drawn0.step)⟩
      · rw [if_neg c7] at H
        exact absurd H (by simp)


/-! ### lookup_rows_mask: function 106 -/
-- by hand
theorem lookup_rows_mask.calls {g o : Nat} {cs : Array Value} {r : Tab.Rw} {w : World} (hR : Tab.RwAt 111 107 w g o cs r) (hl : r.sl.length ≤ 1099511627776) :
    Calls Try.prog 106 #[.pointer (some ⟨g, o, none⟩)] w fun e w' => e = .returned (.int .i64 ((r.sl.length : Int) - 1)) ∧ w' = w := by
  have hc1 : w.cell? ⟨g, o + 1, none⟩ = some r.val := (blk_cell hR.blk _).trans hR.c1
  unfold Tab.Rw.val at hc1
  obtain ⟨n, hn⟩ : ∃ n, n = r.sl.length := ⟨_, rfl⟩
  rw [← hn] at hc1 hl ⊢
  clear hn hR
  have h0 : (0 : Int) ≤ (n : Int) := by omega
  have h1 : (n : Int) ≤ 1099511627776 := by omega
  go_enter Try.func106, Try.ntmps106
  go_wp2
  go_ret
  exact ⟨rfl, rfl⟩


/-! ### lookup_rows_find: function 85 -/
-- by hand
/-- A key's own slot. -/
def tabHome (bits : Nat) (key : Int) : Nat := ((mix_Slot.f key (bits : Int)).getD 0).toNat
theorem shift_is {a b x : Int} (h : mix_shift.f a b = some x) (hb : 0 ≤ b) : x = Go.bits .xor .u64 a (shr .u64 a b) := by
  unfold mix_shift.f at h
  rw [if_pos hb] at h
  exact (Option.some.inj h).symm
theorem tabHome_is (bits : Nat) (key : Int) (h1 : 1 ≤ bits) (h2 : bits ≤ 30) : mix_Slot.f key (bits : Int) = some ((tabHome bits key : Nat) : Int) ∧ tabHome bits key < 2 ^ bits := by
  have hm : ∃ t, mix_Mix.f key = some t ∧ 0 ≤ t ∧ t < 18446744073709551616 := by
    unfold mix_Mix.f mix_shift.f
    refine ⟨_, rfl, ?_⟩
    show 0 ≤ IntKind.u64.wrap _ ∧ IntKind.u64.wrap _ < _
    rw [IntKind.wrap_u64]
    omega
  obtain ⟨t, ht, ht0, ht1⟩ := hm
  have hw1 : wrap64 (64 - (bits : Int)) = 64 - (bits : Int) := by unfold wrap64; omega
  have hw2 : IntKind.u64.wrap (64 - (bits : Int)) = 64 - (bits : Int) := by rw [IntKind.wrap_u64]; omega
  obtain ⟨q, rfl⟩ := Int.eq_ofNat_of_zero_le ht0
  have hp : (2 : Nat) ^ 64 = 2 ^ (64 - bits) * 2 ^ bits := by rw [← Nat.pow_add, show 64 - bits + bits = 64 by omega]
  have hp30 : (2 : Nat) ^ bits ≤ 2 ^ 30 := Nat.pow_le_pow_right (by decide) h2
  have hq : q / 2 ^ (64 - bits) < 2 ^ bits := Nat.div_lt_of_lt_mul (by rw [← hp]; omega)
  have hs : shr .u64 (q : Int) (64 - (bits : Int)) = ((q / 2 ^ (64 - bits) : Nat) : Int) := by
    unfold shr
    rw [show (64 - (bits : Int)).toNat = 64 - bits by omega, Nat.min_eq_left (show 64 - bits ≤ IntKind.u64.bits by simp [IntKind.bits])]
    simp
  have hf : mix_Slot.f key (bits : Int) = some ((q / 2 ^ (64 - bits) : Nat) : Int) := by
    unfold mix_Slot.f
    rw [if_neg (by omega), if_neg (by omega), ht]
    simp only [Option.bind_some]
    simp only [hw1, hw2, hs]
    rw [if_pos (by omega)]
    have : wrap64 ((q / 2 ^ (64 - bits) : Nat) : Int) = ((q / 2 ^ (64 - bits) : Nat) : Int) := by
      unfold wrap64
      generalize q / 2 ^ (64 - bits) = z at hq ⊢
      omega
    rw [this]
  unfold tabHome
  rw [hf]
  simp only [Option.getD_some, Int.toNat_natCast]
  exact ⟨trivial, hq⟩
set_option maxRecDepth 100000 in
set_option maxHeartbeats 4000000 in
theorem lookup_rows_find.calls {f g o : Nat} {cs : Array Value} {r : Tab.Rw} {key : Int} {i : Nat} {b : Bool} {w : World} (hR : Tab.RwAt 111 107 w g o cs r) (hF : Tab.Fit r) (hf : Tab.probe r.sl key f (tabHome r.bits key) = some (i, b)) :
    Calls Try.prog 85 #[.pointer (some ⟨g, o, none⟩), .int .u64 key] w fun e w' => e = .returned (.tuple #[.int .i64 (i : Int), .bool b]) ∧ ∃ nd, w' = w.drewN nd := by
  obtain ⟨hh, hlt⟩ := tabHome_is r.bits key hF.lo hF.hi
  rw [← hF.len] at hlt
  have hc0 : w.cell? ⟨g, o, none⟩ = some (.int .i64 (r.bits : Int)) := (blk_cell hR.blk _).trans hR.c0
  have hc1 : w.cell? ⟨g, o + 1, none⟩ = some r.val := (blk_cell hR.blk _).trans hR.c1
  obtain ⟨A, hA⟩ := Option.ne_none_iff_exists'.1 hF.adr
  have HA := Aside0.mk (hR.arr A hA).1
  have HR := Aside0.mk hR
  have HF := Aside0.mk hF
  have HH := Aside0.mk hh
  obtain ⟨n, hn⟩ : ∃ n, n = r.sl.length := ⟨_, rfl⟩
  have hv : r.val = .slice (some ⟨A, 0, none⟩) n n := by unfold Tab.Rw.val; rw [hA, hn]; rfl
  rw [hv] at hc1
  have hn1 : n ≤ 1073741824 := by rw [hn, hF.len]; exact Nat.pow_le_pow_right (by decide) hF.hi
  have hn0 : 0 < n := by rw [hn, hF.len]; exact Nat.two_pow_pos _
  have e1 : ((n : Int) == 0) = false := beq_eq_false_iff_ne.2 (by omega)
  have e2 : (n == 0) = false := beq_eq_false_iff_ne.2 (by omega)
  have HN := Aside0.mk hn
  have HS := Aside0.mk hf
  rw [← hn] at hlt
  clear hR hF hh hf hn hv hA
  go_enter Try.func85, Try.ntmps85
  go_wp2_with (go_at_call 81; refine (mix_Slot.calls key (r.bits : Int) _ _ HH.out).mono ?_; rintro e w' ⟨rfl, ⟨nd, rfl⟩⟩)
  go_loopg [6] f (fun kq v6 w' => ∃ j : Nat, v6 = .int .i64 (j : Int) ∧ j < n ∧ Aside0 (Tab.probe r.sl key kq j = some (i, b)) ∧ Aside0 (kq ≤ f) ∧ Aside0 (∃ nd, w' = w.drewN nd))
  case atStart => exact ⟨_, rfl, hlt, HS, ⟨Nat.le_refl _⟩, ⟨_, rfl⟩⟩
  case round =>
    obtain ⟨j, rfl, hj, HP, HK, HW⟩ := hrel
    obtain ⟨nd, rfl⟩ := HW.out
    obtain ⟨hcj0, _, hcj2⟩ := Tab.arr_cell (w := w.drewN nd) HA.out (show j < r.sl.length by rw [← HN.out]; exact hj)
    have hc1' : (w.drewN nd).cell? ⟨g, o + 1, none⟩ = some (.slice (some ⟨A, 0, none⟩) n n) := hc1
    have hj0 : (0 : Int) ≤ (j : Int) := by omega
    have hj1 : (j : Int) < (n : Int) := by omega
    have hj2 : (j : Int) ≤ 1073741824 := by omega
    cases gk with
    | zero => exact absurd HP.out (by simp [Tab.probe])
    | succ k1 =>
      have hp := HP.out
      simp only [Tab.probe] at hp
      obtain ⟨s, hs⟩ : ∃ s, s = Tab.at_ r.sl j := ⟨_, rfl⟩
      rw [← hs] at hp hcj0 hcj2
      obtain ⟨sk, sn, st⟩ := s
      clear hs
      simp only at hp hcj0 hcj2
      cases st with
      | false =>
        rw [if_neg (by simp)] at hp
        simp only [Option.some.injEq, Prod.mk.injEq] at hp
        obtain ⟨rfl, rfl⟩ := hp
        go_wp2
        go_ret2
        exact ⟨rfl, _, rfl⟩
      | true =>
        rw [if_pos rfl] at hp
        by_cases hk : sk = key
        · rw [if_pos hk] at hp
          simp only [Option.some.injEq, Prod.mk.injEq] at hp
          obtain ⟨rfl, rfl⟩ := hp
          have kb : (sk == key) = true := beq_iff_eq.2 hk
          clear hk
          go_wp2
          go_ret2
          exact ⟨rfl, _, rfl⟩
        · rw [if_neg hk] at hp
          have kb : (sk == key) = false := beq_eq_false_iff_ne.2 hk
          have HX := Aside0.mk hp
          have HNX := Aside0.mk (Tab.and_next (show r.sl.length = 2 ^ r.bits from HF.out.len) (Nat.le_trans HF.out.hi (by decide)) (show j < r.sl.length by rw [← HN.out]; exact hj))
          clear hk hp HP
          have hm := lookup_rows_mask.calls (HR.out.drewN nd) (by rw [← HN.out]; omega)
          rw [← HN.out] at hm
          have HM := Aside0.mk hm
          clear hm
          have hwr : wrap64 ((j : Int) + 1) = (j : Int) + 1 := by unfold wrap64; omega
          have hnx := HNX.out
          rw [← HN.out] at hnx
          go_wp2_with (go_at_call 106; refine HM.out.mono ?_; rintro e w' ⟨rfl, rfl⟩)
          go_roundg k1
          case measure => have := HK.out; omega
          case rel => exact ⟨Tab.nxt n j, by first | rfl | (simp [hnx]; done), by unfold Tab.nxt; split <;> omega, by rw [HN.out]; exact HX, ⟨by have := HK.out; omega⟩, ⟨_, rfl⟩⟩
set_option maxRecDepth 100000 in
set_option maxHeartbeats 4000000 in
theorem lookup_rows_find.calls_none {g o : Nat} {cs : Array Value} {r : Tab.Rw} {key : Int} {w : World} (hR : Tab.RwAt 111 107 w g o cs r) (ha : r = Tab.none_) :
    Calls Try.prog 85 #[.pointer (some ⟨g, o, none⟩), .int .u64 key] w fun e w' => e = .returned (.tuple #[.int .i64 0, .bool false]) ∧ ∃ nd, w' = w.drewN nd := by
  have hc1 : w.cell? ⟨g, o + 1, none⟩ = some (.slice none 0 0) := ((blk_cell hR.blk _).trans hR.c1).trans (by rw [ha]; rfl)
  clear hR ha
  go_enter Try.func85, Try.ntmps85
  go_wp2
  go_ret2
  exact ⟨rfl, 0, rfl⟩
/-- What a search in slots comes to. -/
theorem lookup_rows_find.any {g o : Nat} {cs : Array Value} {r : Tab.Rw} {w : World} (hR : Tab.RwAt 111 107 w g o cs r) (h : r = Tab.none_ ∨ Tab.Fit r ∧ Tab.Inv (tabHome r.bits) r.sl) (key : Int) :
    ∃ (i : Nat) (b : Bool), (b = true → i < r.sl.length ∧ (Tab.at_ r.sl i).t = true ∧ (Tab.at_ r.sl i).k = key) ∧ (b = false → ∀ p, p < r.sl.length → (Tab.at_ r.sl p).t = true → (Tab.at_ r.sl p).k ≠ key) ∧
      ∀ nd, Calls Try.prog 85 #[.pointer (some ⟨g, o, none⟩), .int .u64 key] (w.drewN nd) fun e w' => e = .returned (.tuple #[.int .i64 (i : Int), .bool b]) ∧ ∃ nd, w' = w.drewN nd := by
  rcases h with h | ⟨h1, h2⟩
  · refine ⟨0, false, fun h => absurd h (by simp), fun _ p hp => absurd hp (by rw [h]; simp [Tab.none_]), fun nd => ?_⟩
    refine (lookup_rows_find.calls_none (hR.drewN nd) h).mono ?_
    rintro e w' ⟨rfl, m, rfl⟩
    exact ⟨rfl, _, World.drewN_drewN _ _ _⟩
  · obtain ⟨i, b, p1, p2, p3, p4⟩ := Tab.probe_from h2 key
    refine ⟨i, b, fun h => ⟨p2, p3 h⟩, fun h => (p4 h).2.2, fun nd => ?_⟩
    refine (lookup_rows_find.calls (hR.drewN nd) h1 p1).mono ?_
    rintro e w' ⟨rfl, m, rfl⟩
    exact ⟨rfl, _, World.drewN_drewN _ _ _⟩
theorem tinv_any {sk : Nat} {t : Tab.Tb} (hI : Tab.TInv tabHome sk t) : t.old = Tab.none_ ∨ Tab.Fit t.old ∧ Tab.Inv (tabHome t.old.bits) t.old.sl := by
  rcases hI.old with ⟨h, _⟩ | h
  · exact .inl h
  · exact .inr ⟨h.fit, h.inv⟩


/-! ### lookup_rows_put: function 87 -/
-- by hand
set_option maxRecDepth 100000 in
set_option maxHeartbeats 4000000 in
theorem lookup_rows_put.calls {f g o : Nat} {cs : Array Value} {r : Tab.Rw} {key node : Int} {i : Nat} {b : Bool} {w : World} (hR : Tab.RwAt 111 107 w g o cs r) (hF : Tab.Fit r) (hf : Tab.probe r.sl key f (tabHome r.bits key) = some (i, b)) (hi : i < r.sl.length) (hm0 : 0 ≤ r.many) (hm1 : r.many ≤ 1099511627776) :
    Calls Try.prog 87 #[.pointer (some ⟨g, o, none⟩), .int .u64 key, .int .i32 node] w fun e w' => e = .returned (.bool (!b)) ∧ ∃ cs', Tab.RwAt 111 107 w' g o cs' { r with sl := r.sl.set i ⟨key, node, true⟩, many := if b = true then r.many else r.many + 1 } ∧
      (∀ j, j ≠ o + 2 → cs'[j]? = cs[j]?) ∧ Mut (Tab.Rw.foot g r) w (Tab.Rw.foot g r) w' := by
  have HR := Aside0.mk hR
  have HF := Aside0.mk hF
  have HP := Aside0.mk hf
  obtain ⟨A, hA⟩ := Option.ne_none_iff_exists'.1 hF.adr
  obtain ⟨hAr, hAg⟩ := hR.arr A hA
  have HA := Aside0.mk hAr
  have HAD := Aside0.mk hA
  obtain ⟨n, hn⟩ : ∃ n, n = r.sl.length := ⟨_, rfl⟩
  have HN := Aside0.mk hn
  have hv : r.val = .slice (some ⟨A, 0, none⟩) n n := by unfold Tab.Rw.val; rw [hA, hn]; rfl
  have hc1 : ∀ nd, (w.drewN nd).cell? ⟨g, o + 1, none⟩ = some (.slice (some ⟨A, 0, none⟩) n n) := fun nd => ((blk_cell hR.blk _).trans hR.c1).trans (by rw [hv])
  have hc2 : ∀ nd, (w.drewN nd).cell? ⟨g, o + 2, none⟩ = some (.int .i64 r.many) := fun nd => (blk_cell hR.blk _).trans hR.c2
  have hf2 : ∀ nd, (w.drewN nd).frozen? ⟨g, o + 2, none⟩ = false := fun nd => blk_frozen hR.blk _
  have hcA := Tab.arr_cell hAr hi
  have hs0 : ∀ nd, (w.drewN nd).cell? ⟨A, i * 3, none⟩ = some (.int .u64 (Tab.at_ r.sl i).k) := fun nd => hcA.1
  have hs1 : ∀ nd, (w.drewN nd).cell? ⟨A, i * 3 + 1, none⟩ = some (.int .i32 (Tab.at_ r.sl i).n) := fun nd => hcA.2.1
  have hs2 : ∀ nd, (w.drewN nd).cell? ⟨A, i * 3 + 2, none⟩ = some (.bool (Tab.at_ r.sl i).t) := fun nd => hcA.2.2
  have hfA : ∀ nd j, (w.drewN nd).frozen? ⟨A, j, none⟩ = false := fun nd j => blk_frozen hAr j
  have hAg' := Ne.symm hAg
  rw [← hn] at hi
  have hi0 : (0 : Int) ≤ (i : Int) := by omega
  have hi1 : (i : Int) < (n : Int) := by omega
  clear hR hF hf hv hn hA hAr hcA
  cases b with
  | true =>
    go_enter Try.func87, Try.ntmps87
    go_wp2_with (go_at_call 85; refine (lookup_rows_find.calls HR.out HF.out HP.out).mono ?_; rintro e w' ⟨rfl, ⟨nd, rfl⟩⟩)
    go_ret
    obtain ⟨q1, q2⟩ := (HR.out.drewN nd).slot HAD.out (show i < r.sl.length by rw [← HN.out]; exact hi) ⟨key, node, true⟩
    exact ⟨rfl, cs, q1, fun _ _ => rfl, ((Mut.refl _ w).drewN nd).trans (q2 _ (.inr HAD.out))⟩
  | false =>
    go_enter Try.func87, Try.ntmps87
    go_wp2_with (go_at_call 85; refine (lookup_rows_find.calls HR.out HF.out HP.out).mono ?_; rintro e w' ⟨rfl, ⟨nd, rfl⟩⟩)
    go_ret
    obtain ⟨q1, q2⟩ := (HR.out.drewN nd).slot HAD.out (show i < r.sl.length by rw [← HN.out]; exact hi) ⟨key, node, true⟩
    obtain ⟨q3, q4⟩ := q1.many_ (r.many + 1)
    exact ⟨rfl, _, q3, fun j hj => Array.getElem?_setIfInBounds_ne (Ne.symm hj), ((Mut.refl _ w).drewN nd).trans ((q2 _ (.inr HAD.out)).trans (q4 _ (.inl rfl)))⟩


/-! ### lookup_rows_clear: function 88 -/
-- by hand
set_option maxRecDepth 100000 in
set_option maxHeartbeats 8000000 in
theorem lookup_rows_clear.calls {f g o : Nat} {cs : Array Value} {r : Tab.Rw} {i : Nat} {S : List Sl} {w : World} (hR : Tab.RwAt 111 107 w g o cs r) (hF : Tab.Fit r) (hi : i < r.sl.length) (hc : Tab.clr (tabHome r.bits) f r.sl i (Tab.nxt r.sl.length i) = some S) (hm0 : 1 ≤ r.many) (hm1 : r.many ≤ 1099511627776) :
    Calls Try.prog 88 #[.pointer (some ⟨g, o, none⟩), .int .i64 (i : Int)] w fun e w' => e = .returned (.tuple #[]) ∧ ∃ cs', Tab.RwAt 111 107 w' g o cs' { r with sl := S, many := r.many - 1 } ∧
      (∀ j, j ≠ o + 2 → cs'[j]? = cs[j]?) ∧ Mut (Tab.Rw.foot g r) w (Tab.Rw.foot g r) w' := by
  have HF := Aside0.mk hF
  have HC := Aside0.mk hc
  obtain ⟨A, hA⟩ := Option.ne_none_iff_exists'.1 hF.adr
  have HAD := Aside0.mk hA
  have HAg := Aside0.mk (hR.arr A hA).2
  obtain ⟨n, hn⟩ : ∃ n, n = r.sl.length := ⟨_, rfl⟩
  have HN := Aside0.mk hn
  have hn1 : n ≤ 1073741824 := by rw [hn, hF.len]; exact Nat.pow_le_pow_right (by decide) hF.hi
  have hv : r.val = .slice (some ⟨A, 0, none⟩) n n := by unfold Tab.Rw.val; rw [hA, hn]; rfl
  obtain ⟨q3, q4⟩ := hR.many_ (r.many - 1)
  have HR1 := Aside0.mk q3
  have HM1 := Aside0.mk (q4 (Tab.Rw.foot g r) (.inl rfl))
  have hcs : ∀ j, j ≠ o + 2 → (cs.setIfInBounds (o + 2) (.int .i64 (r.many - 1)))[j]? = cs[j]? := fun j hj => Array.getElem?_setIfInBounds_ne (Ne.symm hj)
  have HCS := Aside0.mk hcs
  have hc2 : w.cell? ⟨g, o + 2, none⟩ = some (.int .i64 r.many) := (blk_cell hR.blk _).trans hR.c2
  have hf2 : w.frozen? ⟨g, o + 2, none⟩ = false := blk_frozen hR.blk _
  have hm := lookup_rows_mask.calls q3 (show r.sl.length ≤ _ by rw [← hn]; omega)
  simp only at hm
  rw [← hn] at hm
  have HM := Aside0.mk hm
  rw [← hn] at hi
  have hi2 : (i : Int) ≤ 1073741824 := by omega
  have hi0 : (0 : Int) ≤ (i : Int) := by omega
  have hwr : wrap64 ((i : Int) + 1) = (i : Int) + 1 := by unfold wrap64; omega
  have hnx := Tab.and_next (show r.sl.length = 2 ^ r.bits from hF.len) (Nat.le_trans hF.hi (by decide)) (show i < r.sl.length by rw [← hn]; exact hi)
  rw [← hn] at hnx
  have HNX := Aside0.mk (show Tab.nxt n i < n by unfold Tab.nxt; split <;> omega)
  clear hR hF hc hA hn hv q3 q4 hcs hm
  go_enter Try.func88, Try.ntmps88
  go_wp2_with (go_at_call 106; refine HM.out.mono ?_; rintro e w' ⟨rfl, rfl⟩)
  go_loopg [1, 4] f (fun kq v1 v4 w' => ∃ (i k : Nat) (s : List Sl), v1 = .int .i64 (i : Int) ∧ v4 = .int .i64 (k : Int) ∧ i < n ∧ k < n ∧ Aside0 (s.length = n) ∧ Aside0 (Tab.clr (tabHome r.bits) kq s i k = some S) ∧ Aside0 (kq ≤ f) ∧ Aside0 (Tab.RwAt 111 107 w' g o (cs.setIfInBounds (o + 2) (.int .i64 (r.many - 1))) { r with sl := s, many := r.many - 1 }) ∧ Aside0 (Mut (Tab.Rw.foot g r) w (Tab.Rw.foot g r) w'))
  case atStart => exact ⟨i, Tab.nxt n i, r.sl, rfl, by simp [hnx], hi, HNX.out, ⟨HN.out.symm⟩, ⟨by rw [HN.out]; exact HC.out⟩, ⟨Nat.le_refl _⟩, HR1, HM1⟩
  case round =>
    clear hnx hwr hi hi2 hi0
    obtain ⟨i, k, s, rfl, rfl, hi, hk, HSL, HX, HK, HR, HMU⟩ := hrel
    have hsl := HSL.out
    have hv : Tab.Rw.val { r with sl := s, many := r.many - 1 } = .slice (some ⟨A, 0, none⟩) n n := by unfold Tab.Rw.val; simp only [HAD.out, hsl]; rfl
    have hc0 := (blk_cell HR.out.blk o).trans HR.out.c0
    have hc1 := ((blk_cell HR.out.blk (o + 1)).trans HR.out.c1).trans (congrArg some hv)
    simp only at hc0
    have hAr := (HR.out.arr A HAD.out).1
    obtain ⟨hk0, hk1, hk2⟩ := Tab.arr_cell hAr (show k < s.length by rw [hsl]; exact hk)
    obtain ⟨hi0, hi1, hi2⟩ := Tab.arr_cell hAr (show i < s.length by rw [hsl]; exact hi)
    have hfA : ∀ j, wr.frozen? ⟨A, j, none⟩ = false := fun j => blk_frozen hAr j
    have hkz : (0 : Int) ≤ (k : Int) := by omega
    have hkn : (k : Int) < (n : Int) := by omega
    have hkm : (k : Int) ≤ 1073741824 := by omega
    have hiz : (0 : Int) ≤ (i : Int) := by omega
    have hin : (i : Int) < (n : Int) := by omega
    have him : (i : Int) ≤ 1073741824 := by omega
    simp only at hk0 hk1 hk2 hi0 hi1 hi2
    clear hv hAr hsl
    cases gk with
    | zero => exact absurd HX.out (by simp [Tab.clr])
    | succ k1 =>
      have hp := HX.out
      simp only [Tab.clr] at hp
      obtain ⟨t, ht⟩ : ∃ t, t = (Tab.at_ s k).t := ⟨_, rfl⟩
      rw [← ht] at hp hk2
      have HT := Aside0.mk ht
      clear ht
      cases t with
      | false =>
        rw [if_neg (by simp)] at hp
        have HP := Aside0.mk hp
        clear hp HX
        go_wp2
        obtain ⟨q1, q2⟩ := HR.out.slot HAD.out (show i < s.length by rw [HSL.out]; exact hi) Tab.z
        go_end0
        refine ⟨rfl, _, ?_, HCS.out, HMU.out.trans (q2 _ (.inr HAD.out))⟩
        rw [← Option.some.inj HP.out]
        exact q1
      | true =>
        rw [if_pos rfl] at hp
        have HP := Aside0.mk hp
        clear hp HX
        obtain ⟨hh, hlt⟩ := tabHome_is r.bits (Tab.at_ s k).k HF.out.lo HF.out.hi
        have HH := Aside0.mk hh
        clear hh
        have hm2 : ∀ nd, Calls Try.prog 106 #[.pointer (some ⟨g, o, none⟩)] (wr.drewN nd) fun e w' => e = .returned (.int .i64 ((n : Int) - 1)) ∧ w' = wr.drewN nd := fun nd => by
          have := lookup_rows_mask.calls (HR.out.drewN nd) (show s.length ≤ _ by rw [HSL.out]; omega)
          refine this.mono ?_
          rintro e w' ⟨rfl, rfl⟩
          refine ⟨?_, rfl⟩
          show Ending.returned (.int .i64 ((s.length : Int) - 1)) = _
          rw [HSL.out]
        have HM2 := Aside0.mk hm2
        obtain ⟨hm, hhm⟩ : ∃ hm, hm = tabHome r.bits (Tab.at_ s k).k := ⟨_, rfl⟩
        rw [← hhm] at hlt HH
        have HHM := Aside0.mk hhm
        have hlt2 : (hm : Int) ≤ 1073741824 := by have := HN.out.trans HF.out.len; omega
        have w1 : wrap64 ((k : Int) - (hm : Int)) = (k : Int) - (hm : Int) := by unfold wrap64; omega
        have w2 : wrap64 ((k : Int) - (i : Int)) = (k : Int) - (i : Int) := by unfold wrap64; omega
        have w3 : wrap64 ((k : Int) + 1) = (k : Int) + 1 := by unfold wrap64; omega
        have HNX2 := Aside0.mk (show Tab.nxt n k < n by unfold Tab.nxt; split <;> omega)
        have hp := HP.out
        rw [HSL.out, ← hhm] at hp
        clear hhm HP
        by_cases hge : Tab.dst n k i ≤ Tab.dst n k hm
        · rw [if_pos hge] at hp
          have HP := Aside0.mk hp
          have g1 : decide (Tab.dst n k i ≤ Tab.dst n k hm) = true := decide_eq_true hge
          have g2 : decide ((Tab.dst n k i : Int) ≤ (Tab.dst n k hm : Int)) = true := decide_eq_true (by omega)
          clear hge hp
          have hd1 := Tab.and_dst (n := n) (HN.out.trans HF.out.len) (Nat.le_trans HF.out.hi (by decide)) hk (show hm < n by rw [HN.out, HF.out.len]; exact hlt)
          have hd2 := Tab.and_dst (n := n) (HN.out.trans HF.out.len) (Nat.le_trans HF.out.hi (by decide)) hk hi
          have hd3 := Tab.and_next (n := n) (HN.out.trans HF.out.len) (Nat.le_trans HF.out.hi (by decide)) hk
          go_wp2
          go_quiet ((go_at_call 81; refine (mix_Slot.calls _ _ _ _ HH.out).mono ?_; rintro e w' ⟨rfl, ⟨nd, rfl⟩⟩; exact ⟨rfl, _, World.drewN_drewN _ _ _⟩))
          go_wp2_with (go_at_call 106; refine (HM2.out _).mono ?_; rintro e w' ⟨rfl, rfl⟩)
          refine region_tail 13 (by kernel_rfl) (by kernel_rfl) (fun W2 HW2 => ?_)
          simp only [List.take_succ_cons, List.take_zero, List.drop_succ_cons, List.drop_zero]
          have hc1N : W2.cell? ⟨g, o + 1, none⟩ = some (.slice (some ⟨A, 0, none⟩) n n) := by rw [HW2.out]; exact hc1
          have hkN0 : W2.cell? ⟨A, k * 3, none⟩ = some (.int .u64 (Tab.at_ s k).k) := by rw [HW2.out]; exact hk0
          have hkN1 : W2.cell? ⟨A, k * 3 + 1, none⟩ = some (.int .i32 (Tab.at_ s k).n) := by rw [HW2.out]; exact hk1
          have hkN2 : W2.cell? ⟨A, k * 3 + 2, none⟩ = some (.bool true) := by rw [HW2.out]; exact hk2
          have hiN0 : W2.cell? ⟨A, i * 3, none⟩ = some (.int .u64 (Tab.at_ s i).k) := by rw [HW2.out]; exact hi0
          have hiN1 : W2.cell? ⟨A, i * 3 + 1, none⟩ = some (.int .i32 (Tab.at_ s i).n) := by rw [HW2.out]; exact hi1
          have hiN2 : W2.cell? ⟨A, i * 3 + 2, none⟩ = some (.bool (Tab.at_ s i).t) := by rw [HW2.out]; exact hi2
          have hfN : ∀ j, W2.frozen? ⟨A, j, none⟩ = false := fun j => by rw [HW2.out]; exact hfA j
          repeat still_step
          refine wpStill_nil ?_
          have hRW : Tab.RwAt 111 107 W2 g o (cs.setIfInBounds (o + 2) (.int .i64 (r.many - 1))) { r with sl := s, many := r.many - 1 } := by
            rw [HW2.out]
            exact (HR.out.drewN _).drew
          have hMW : Mut (Tab.Rw.foot g r) w (Tab.Rw.foot g r) W2 := by
            rw [HW2.out]
            exact (HMU.out.drewN _).drew
          have hat : Tab.at_ s k = ⟨(Tab.at_ s k).k, (Tab.at_ s k).n, true⟩ := by rw [HT.out]
          obtain ⟨q1, q2⟩ := hRW.slot HAD.out (show i < s.length by rw [HSL.out]; exact hi) ⟨(Tab.at_ s k).k, (Tab.at_ s k).n, true⟩
          have hm3 := (lookup_rows_mask.calls q1 (show (s.set i _).length ≤ _ by rw [List.length_set, HSL.out]; clear hd1 hd2 hd3; omega)).mono (R' := fun e w' => e = .returned (.int .i64 ((n : Int) - 1)) ∧ w' = W2.setCells A (i * 3) (Tab.enc ⟨(Tab.at_ s k).k, (Tab.at_ s k).n, true⟩)) (by
            rintro e w' ⟨rfl, rfl⟩
            refine ⟨?_, rfl⟩
            show Ending.returned (.int .i64 (((s.set i _).length : Int) - 1)) = _
            rw [List.length_set, HSL.out])
          have HM3 := Aside0.mk hm3
          have HQ1 := Aside0.mk q1
          have HQ2 := Aside0.mk (hMW.trans (q2 (Tab.Rw.foot g r) (.inr HAD.out)))
          have HAT := Aside0.mk hat
          clear hRW hMW hat q1 q2 hm3
          go_wp2_with (go_at_call 106; refine HM3.out.mono ?_; rintro e w' ⟨rfl, rfl⟩)
          go_roundg k1
          case measure =>
            clear hd1 hd2 hd3
            have := HK.out
            omega
          case rel =>
            refine ⟨k, Tab.nxt n k, s.set i ⟨(Tab.at_ s k).k, (Tab.at_ s k).n, true⟩, rfl, by first | rfl | (simp [hd3]; done), hk, HNX2.out, ⟨by rw [List.length_set]; exact HSL.out⟩, ⟨?_⟩, ⟨Nat.le_of_succ_le HK.out⟩, HQ1, HQ2⟩
            rw [← HAT.out]
            exact HP.out
        · rw [if_neg hge] at hp
          have HP := Aside0.mk hp
          have g1 : decide (Tab.dst n k i ≤ Tab.dst n k hm) = false := decide_eq_false hge
          have g2 : decide ((Tab.dst n k i : Int) ≤ (Tab.dst n k hm : Int)) = false := decide_eq_false (by omega)
          clear hge hp
          have hd1 := Tab.and_dst (n := n) (HN.out.trans HF.out.len) (Nat.le_trans HF.out.hi (by decide)) hk (show hm < n by rw [HN.out, HF.out.len]; exact hlt)
          have hd2 := Tab.and_dst (n := n) (HN.out.trans HF.out.len) (Nat.le_trans HF.out.hi (by decide)) hk hi
          have hd3 := Tab.and_next (n := n) (HN.out.trans HF.out.len) (Nat.le_trans HF.out.hi (by decide)) hk
          go_wp2
          go_quiet ((go_at_call 81; refine (mix_Slot.calls _ _ _ _ HH.out).mono ?_; rintro e w' ⟨rfl, ⟨nd, rfl⟩⟩; exact ⟨rfl, _, World.drewN_drewN _ _ _⟩))
          go_wp2_with (go_at_call 106; refine (HM2.out _).mono ?_; rintro e w' ⟨rfl, rfl⟩)
          go_roundg k1
          case measure =>
            clear hd1 hd2 hd3
            have := HK.out
            omega
          case rel => exact ⟨i, Tab.nxt n k, s, rfl, by first | rfl | (simp [hd3]; done), hi, HNX2.out, HSL, HP, ⟨Nat.le_of_succ_le HK.out⟩, ⟨HR.out.drewN _⟩, ⟨HMU.out.drewN _⟩⟩


/-! ### lookup_Table_move: function 84 -/
-- by hand
set_option maxRecDepth 100000 in
set_option maxHeartbeats 8000000 in
theorem lookup_Table_move.both {g most sk : Nat} {cs : Array Value} {t : Tab.Tb} {w : World} (hT : Tab.TbAt 111 107 w g cs t) (hI : Tab.TInv tabHome sk t) (hm : most ≤ 1099511627776) (hv0 : 0 ≤ t.moves) (hv1 : t.moves + most < 18446744073709551616) (hk : t.now.sl.length ≤ 1099511627776) :
    Calls Try.prog 84 #[.pointer (some ⟨g, 0, none⟩), .int .i64 (most : Int)] w (fun e w' => e = .returned (.tuple #[]) ∧ ∃ cs' t', Tab.TbAt 111 107 w' g cs' t' ∧ Tab.Moved tabHome sk most t t' ∧ Mut (t.foot g) w (t'.foot g) w') ∧ ∀ u, CallsD Try.prog 84 #[.pointer (some ⟨g, 0, none⟩), .int .i64 (most : Int)] u w fun e u' w' => u' = u ∧ e = .returned (.tuple #[]) ∧ ∃ cs' t', Tab.TbAt 111 107 w' g cs' t' ∧ Tab.Moved tabHome sk most t t' ∧ Mut (t.foot g) w (t'.foot g) w' := by
  have HT := Aside0.mk hT
  have HI := Aside0.mk hI
  have HV0 := Aside0.mk hv0
  have HV1 := Aside0.mk hv1
  have HK := Aside0.mk hk
  have hm' : (most : Int) ≤ 1099511627776 := by omega
  clear hT hI hv0 hv1 hk
  refine both_of_wp Try.func84 rfl ?_
  simp only [Try.ntmps84, List.size_toArray, List.length_cons, List.length_nil, Nat.reduceAdd, Nat.reduceSub, Array.replicate_succ, Array.replicate_zero, List.push_toArray, List.append_toArray, List.nil_append, List.cons_append]
  go_wp2
  go_loopg [4] (most * (t.old.sl.length + 1) + t.old.sl.length + 1) (fun kq v4 w' => ∃ (d : Nat) (cs1 : Array Value) (t1 : Tab.Tb), v4 = .int .i64 (d : Int) ∧ d ≤ most ∧ Aside0 (Tab.TbAt 111 107 w' g cs1 t1) ∧ Aside0 (Tab.MvInv tabHome t t1 d) ∧ Aside0 (Mut (t.foot g) w (t.foot g) w') ∧ Aside0 ((most - d) * (t.old.sl.length + 1) + (t.old.sl.length - t1.frm) < kq))
  case atStart => exact ⟨0, cs, t, rfl, Nat.zero_le _, HT, ⟨Tab.MvInv.start HI.out⟩, ⟨Mut.refl _ _⟩, ⟨by rw [Nat.sub_zero]; omega⟩⟩
  case round =>
    obtain ⟨d, cs1, t1, rfl, hd, HT1, HM, HMU, HQ⟩ := hrel
    obtain ⟨k1, rfl⟩ : ∃ k1, gk = k1 + 1 := ⟨gk - 1, by have := HQ.out; omega⟩
    have hd0 : (0 : Int) ≤ (d : Int) := by omega
    have hd1 : (d : Int) ≤ 1099511627776 := by omega
    have ho := HT1.out.old
    have hom := HM.out.oldMany
    have hc5 : wr.cell? ⟨g, 5, none⟩ = some (.int .i64 (Tab.cnt t1.old.sl : Int)) := by
      have := (blk_cell ho.blk 5).trans ho.c2
      rw [hom] at this
      exact this
    obtain ⟨c, hc⟩ : ∃ c, c = Tab.cnt t1.old.sl := ⟨_, rfl⟩
    rw [← hc] at hc5
    have HC := Aside0.mk hc
    clear ho hom hc
    by_cases hgo : d < most ∧ 0 < c
    · obtain ⟨hdm, hcp⟩ := hgo
      have b1 : decide ((d : Int) < (most : Int)) = true := decide_eq_true (by omega)
      have b2 : decide (d < most) = true := decide_eq_true hdm
      have b3 : decide ((0 : Int) < (c : Int)) = true := decide_eq_true (by omega)
      have b4 : decide (0 < c) = true := decide_eq_true hcp
      have ho := HM.out.isOld (by rw [← HC.out]; exact hcp)
      have hfl := ho.frm_lt (by rw [← HC.out]; exact hcp)
      obtain ⟨A0, hA0⟩ := Option.ne_none_iff_exists'.1 ho.fit.adr
      obtain ⟨n0, hn0⟩ : ∃ n0, n0 = t1.old.sl.length := ⟨_, rfl⟩
      have hv : t1.old.val = .slice (some ⟨A0, 0, none⟩) n0 n0 := by unfold Tab.Rw.val; rw [hA0, hn0]; rfl
      have hc4 : wr.cell? ⟨g, 4, none⟩ = some (.slice (some ⟨A0, 0, none⟩) n0 n0) := ((blk_cell HT1.out.old.blk 4).trans HT1.out.old.c1).trans (by rw [hv])
      obtain ⟨fr, hfr⟩ : ∃ fr, fr = t1.frm := ⟨_, rfl⟩
      have hc6 : wr.cell? ⟨g, 6, none⟩ = some (.int .i64 (fr : Int)) := by rw [hfr]; exact (blk_cell HT1.out.old.blk 6).trans HT1.out.frm
      obtain ⟨hs0, hs1, hs2⟩ := Tab.arr_cell (HT1.out.old.arr A0 hA0).1 hfl
      rw [← hfr] at hs0 hs1 hs2
      obtain ⟨x, hx⟩ : ∃ x, x = Tab.at_ t1.old.sl fr := ⟨_, rfl⟩
      rw [← hx] at hs0 hs1 hs2
      have hf6 : wr.frozen? ⟨g, 6, none⟩ = false := blk_frozen HT1.out.old.blk 6
      rw [← hfr, ← hn0] at hfl
      have hn0m : n0 ≤ 1099511627776 := by
        have h1 := HM.out.nl
        have h2 := ho.len
        have h3 := HK.out
        omega
      have i0 : (0 : Int) ≤ (fr : Int) := by omega
      have i1 : (fr : Int) < (n0 : Int) := by omega
      have HO := Aside0.mk ho
      have HN0 := Aside0.mk hn0
      have HFR := Aside0.mk hfr
      have HXX := Aside0.mk hx
      have HA0 := Aside0.mk hA0
      have lg := World.block_lt_of_cell? wr _ hc4
      have lA := World.block_lt_of_cell? wr _ hs0
      simp only at lg lA
      clear ho hn0 hfr hx hA0 hv
      have hS : wr.cell? ⟨g, 4, none⟩ = some (.slice (some ⟨A0, 0, none⟩) n0 n0) ∧ wr.cell? ⟨g, 6, none⟩ = some (.int .i64 (fr : Int)) ∧ wr.cell? ⟨A0, fr * 3, none⟩ = some (.int .u64 x.k) ∧ wr.cell? ⟨A0, fr * 3 + 1, none⟩ = some (.int .i32 x.n) ∧ wr.cell? ⟨A0, fr * 3 + 2, none⟩ = some (.bool x.t) := ⟨hc4, hc6, hs0, hs1, hs2⟩
      go_wp2
      go_region_held3 (fun w' => w'.cell? ⟨g, 4, none⟩ = some (.slice (some ⟨A0, 0, none⟩) n0 n0) ∧ w'.cell? ⟨g, 6, none⟩ = some (.int .i64 (fr : Int)) ∧ w'.cell? ⟨A0, fr * 3, none⟩ = some (.int .u64 x.k) ∧ w'.cell? ⟨A0, fr * 3 + 1, none⟩ = some (.int .i32 x.n) ∧ w'.cell? ⟨A0, fr * 3 + 2, none⟩ = some (.bool x.t))
        (first | exact hS | exact ⟨cell_alloc _ hS.1, cell_alloc _ hS.2.1, cell_alloc _ hS.2.2.1, cell_alloc _ hS.2.2.2.1, cell_alloc _ hS.2.2.2.2⟩) (fail)
      generalize hW : (wr.alloc (.cells #[.int .u64 x.k, .int .i32 x.n, .bool x.t] 111)).drew = W1
      have hbl : Below wr.heap.size wr W1 := by rw [← hW]; exact below_drew1 ((Below.refl _ _).alloc (Nat.le_refl _) _)
      have hbx : W1.heap[wr.heap.size]? = some (.cells #[.int .u64 x.k, .int .i32 x.n, .bool x.t] 111 (0, 0)) := by rw [← hW]; exact blk_new wr _
      have hT2 : Tab.TbAt 111 107 W1 g cs1 t1 := HT1.out.far (fun k hk => hbl.block k (HT1.out.lt k hk))
      have hM2 : Mut (t.foot g) w (t.foot g) W1 := HMU.out.trans (Mut.of_below _ hbl)
      have hnf : ∀ k, t1.foot g k → k < wr.heap.size := HT1.out.lt
      have hd6 : W1.cell? ⟨g, 6, none⟩ = some (.int .i64 (fr : Int)) := pw_cell_below hbl hc6
      have hd2 : W1.cell? ⟨wr.heap.size, 2, none⟩ = some (.bool x.t) := (blk_cell hbx 2).trans rfl
      have hg6 : W1.frozen? ⟨g, 6, none⟩ = false := blk_frozen hT2.now.blk 6
      have HT2 := Aside0.mk hT2
      have HM2 := Aside0.mk hM2
      have HBX := Aside0.mk hbx
      have HNF := Aside0.mk hnf
      clear hW hbl hbx hT2 hM2 hnf hc4 hc5 hc6 hs0 hs1 hs2 hS hf6
      obtain ⟨B5, hB5⟩ : ∃ B5, B5 = wr.heap.size := ⟨_, rfl⟩
      rw [← hB5] at lg lA HBX HNF hd2 ⊢
      clear hB5
      obtain ⟨xk, xn, xt⟩ := x
      simp only at hd2 HBX HXX
      cases xt with
      | false =>
        have hw6 : wrap64 ((fr : Int) + 1) = (fr : Int) + 1 := by unfold wrap64; omega
        go_wp2
        obtain ⟨q1, q2⟩ := HT2.out.frm_ (fr + 1)
        go_roundg k1
        case measure => omega
        case rel =>
          have hfm := HM.out.free HO.out (by rw [← HC.out]; exact hcp) (by rw [← HFR.out, ← HXX.out])
          rw [← HFR.out] at hfm
          refine ⟨d, cs1.setIfInBounds 6 (.int .i64 ((fr + 1 : Nat) : Int)), { t1 with frm := fr + 1 }, rfl, hd, ⟨q1⟩, ⟨hfm⟩, ?_, ⟨?_⟩⟩
          · have ha := HM.out.adr
            have hff : t1.foot g = t.foot g := by unfold Tab.Tb.foot; rw [ha.1, ha.2]
            rw [hff] at q2
            exact ⟨HM2.out.trans q2⟩
          · have h1 := HQ.out
            have h2 := HM.out.ol
            rw [← HFR.out] at h1
            simp only
            rw [← h2, ← HN0.out] at h1 ⊢
            omega
      | true =>
        have HFF := Aside0.mk (show t1.foot g = t.foot g by unfold Tab.Tb.foot; rw [HM.out.adr.1, HM.out.adr.2])
        obtain ⟨S, i, c1, hi, p1, hmv⟩ := HM.out.move HI.out HO.out (by rw [← HC.out]; exact hcp) (by rw [← HFR.out, ← HXX.out])
        rw [← HFR.out, ← HXX.out] at p1 hmv
        simp only at p1 hmv
        rw [← HFR.out] at c1
        have HC1 := Aside0.mk c1
        have HP1 := Aside0.mk p1
        have HMV := Aside0.mk hmv
        have HI_ := Aside0.mk hi
        have hload := HI.out.load
        have hom := HM.out.oldMany
        have hnm := HM.out.many
        have hnl := HM.out.nl
        have hkk := HK.out
        have hlen := HM.out.len
        have hl1 : t1.len = Tab.cnt t1.now.sl + Tab.cnt t1.old.sl := rfl
        have HB1 := Aside0.mk (show 1 ≤ t1.old.many ∧ t1.old.many ≤ 1099511627776 by have := HC.out; omega)
        have HB2 := Aside0.mk (show 0 ≤ t1.now.many ∧ t1.now.many ≤ 1099511627776 by omega)
        have hmo := HM.out.moves
        have hm1 : t.moves + most < 18446744073709551616 := HV1.out
        have hm0 := HV0.out
        have hmv0 : 0 ≤ t1.moves := by omega
        have hmv1 : t1.moves + 1 < 18446744073709551616 := by omega
        clear c1 p1 hmv hi hload hom hnm hnl hkk hlen hl1 hmo hm1 hm0
        go_wp2
        refine region_tail 7 (by kernel_rfl) (by kernel_rfl) (fun W2 HW2 => ?_)
        simp only [List.take_succ_cons, List.take_zero, List.drop_succ_cons, List.drop_zero]
        have he6 : W2.cell? ⟨g, 6, none⟩ = some (.int .i64 (fr : Int)) := by rw [HW2.out]; exact hd6
        have hT3 : Tab.TbAt 111 107 W2 g cs1 t1 := by rw [HW2.out]; exact HT2.out.drew
        have HT3 := Aside0.mk hT3
        have HM3 := Aside0.mk (show Mut (t.foot g) w (t.foot g) W2 by rw [HW2.out]; exact HM2.out.drew)
        have HBX3 := Aside0.mk (show W2.heap[B5]? = some (.cells #[.int .u64 xk, .int .i32 xn, .bool true] 111 (0, 0)) by rw [HW2.out]; exact HBX.out)
        clear hT3
        repeat still_step
        refine wpStill_nil ?_
        go_wp2_with (go_at_call 88; refine (lookup_rows_clear.calls (i := fr) HT3.out.old HO.out.fit (by rw [← HN0.out]; exact hfl) HC1.out HB1.out.1 HB1.out.2).mono ?_; rintro e w3 ⟨rfl, cs2, hr2, hcs2, hmu2⟩; obtain ⟨hT4, hM4⟩ := HT3.out.old_ hr2 rfl hcs2 hmu2; have hbx4 := hM4.far HBX3.out (fun hf => by have := HNF.out _ hf; omega); have HT4 := Aside0.mk hT4; have HM4 := Aside0.mk (HM3.out.trans (HFF.out ▸ hM4)); have HBX4 := Aside0.mk hbx4; clear hr2 hcs2 hmu2 hT4 hM4 hbx4)
        refine region_tail 7 (by kernel_rfl) (by kernel_rfl) (fun W4 HW4 => ?_)
        simp only [List.take_succ_cons, List.take_zero, List.drop_succ_cons, List.drop_zero]
        have hb0 : W4.cell? ⟨B5, 0, none⟩ = some (.int .u64 xk) := by rw [HW4.out]; exact (blk_cell HBX4.out 0).trans rfl
        have hb1 : W4.cell? ⟨B5, 1, none⟩ = some (.int .i32 xn) := by rw [HW4.out]; exact (blk_cell HBX4.out 1).trans rfl
        have HT5 := Aside0.mk (show Tab.TbAt 111 107 W4 g cs2 { t1 with old := { t1.old with sl := S, many := t1.old.many - 1 } } by rw [HW4.out]; exact HT4.out.drew)
        have HM5 := Aside0.mk (show Mut (t.foot g) w (t.foot g) W4 by rw [HW4.out]; exact HM4.out.drew)
        repeat still_step
        refine wpStill_nil ?_
        go_wp2_with (go_at_call 87; refine (lookup_rows_put.calls HT5.out.now HM.out.fit HP1.out HI_.out HB2.out.1 HB2.out.2).mono ?_; rintro e w5 ⟨rfl, cs3, hr3, hcs3, hmu3⟩; obtain ⟨hT6, hM6⟩ := HT5.out.now_ hr3 rfl hcs3 hmu3; have HT6 := Aside0.mk hT6; have HM6 := Aside0.mk (HM5.out.trans (HFF.out ▸ hM6)); have hc7 : w5.cell? ⟨g, 7, none⟩ = some (.int .u64 t1.moves) := (blk_cell hT6.now.blk 7).trans hT6.mov; have hf7 : w5.frozen? ⟨g, 7, none⟩ = false := blk_frozen hT6.now.blk 7; clear hr3 hcs3 hmu3 hT6 hM6)
        obtain ⟨q1, q2⟩ := HT6.out.mov_ (t1.moves + 1)
        simp only [Bool.false_eq_true, if_false] at q1
        go_roundg k1
        case measure => omega
        case rel =>
          refine ⟨d + 1, _, _, by go_num, hdm, ⟨q1⟩, ⟨by have := HMV.out; rw [HFR.out] at this; exact this⟩, ⟨HM6.out.trans (HFF.out ▸ q2)⟩, ⟨?_⟩⟩
          have h1 := HQ.out
          simp only
          have h2 : (most - d) * (t.old.sl.length + 1) = (most - (d + 1)) * (t.old.sl.length + 1) + (t.old.sl.length + 1) := by
            rw [show most - d = (most - (d + 1)) + 1 by omega, Nat.add_mul, Nat.one_mul]
          omega
    · have hst : decide (d < most) = false ∨ decide (d < most) = true ∧ c = 0 := by
        by_cases h : d < most
        · exact .inr ⟨decide_eq_true h, by omega⟩
        · exact .inl (decide_eq_false h)
      have HG := Aside0.mk hgo
      clear hgo
      by_cases hc0 : c = 0
      · have hcz : (c : Int) = 0 := by omega
        have b5 : ((c : Int) == 0) = true := by rw [hcz]; rfl
        have b3 : decide ((0 : Int) < (c : Int)) = false := decide_eq_false (by omega)
        have b4 : decide (0 < c) = false := decide_eq_false (by omega)
        obtain ⟨cs', q1, q2⟩ := HT1.out.drop_
        have hmd := HM.out.none HI.out hd (by rw [← HC.out]; exact hc0)
        have HFF := (show t1.foot g = t.foot g by unfold Tab.Tb.foot; rw [HM.out.adr.1, HM.out.adr.2])
        rw [HFF] at q2
        have HQ1 := Aside0.mk q1
        have HQ2 := Aside0.mk (HMU.out.trans q2)
        have HMD := Aside0.mk hmd
        have hl3 : ∀ i, i < 8 → ∃ v, wr.cell? ⟨g, i, none⟩ = some v := fun i hi => by
          have hl : 7 < cs1.size := (Array.getElem?_eq_some_iff.1 HT1.out.mov).1
          exact ⟨cs1[i]'(by omega), (blk_cell HT1.out.now.blk i).trans (Array.getElem?_eq_getElem (by omega))⟩
        obtain ⟨v3, h3⟩ := hl3 3 (by decide)
        obtain ⟨v4, h4⟩ := hl3 4 (by decide)
        obtain ⟨v6, h6⟩ := hl3 6 (by decide)
        have hff : ∀ j, wr.frozen? ⟨g, j, none⟩ = false := fun j => blk_frozen HT1.out.now.blk j
        clear q1 q2 hmd HFF hl3 hst hc0
        cases hb : decide (d < most)
        all_goals
          have b1 : decide ((d : Int) < (most : Int)) = decide (d < most) := by congr 1; exact propext (by omega)
          rw [hb] at b1
          go_wp2
          go_end0
          exact ⟨rfl, _, _, HQ1.out, HMD.out, HQ2.out⟩
      · have b5 : ((c : Int) == 0) = false := beq_eq_false_iff_ne.2 (by omega)
        have hdm : ¬ d < most := fun h => HG.out ⟨h, by omega⟩
        have b1 : decide ((d : Int) < (most : Int)) = false := decide_eq_false (by omega)
        have b2 : decide (d < most) = false := decide_eq_false hdm
        have HFF := Aside0.mk (show t1.foot g = t.foot g by unfold Tab.Tb.foot; rw [HM.out.adr.1, HM.out.adr.2])
        have HMD := Aside0.mk (HM.out.some_ (most := most) HI.out (by omega) (by rw [← HC.out]; omega))
        clear hst hc0 hdm
        go_wp2
        go_end0
        exact ⟨rfl, _, _, HT1.out, HMD.out, by rw [HFF.out]; exact HMU.out⟩
theorem lookup_Table_move.calls {g most sk : Nat} {cs : Array Value} {t : Tab.Tb} {w : World} (hT : Tab.TbAt 111 107 w g cs t) (hI : Tab.TInv tabHome sk t) (hm : most ≤ 1099511627776) (hv0 : 0 ≤ t.moves) (hv1 : t.moves + most < 18446744073709551616) (hk : t.now.sl.length ≤ 1099511627776) :
    Calls Try.prog 84 #[.pointer (some ⟨g, 0, none⟩), .int .i64 (most : Int)] w fun e w' => e = .returned (.tuple #[]) ∧ ∃ cs' t', Tab.TbAt 111 107 w' g cs' t' ∧ Tab.Moved tabHome sk most t t' ∧ Mut (t.foot g) w (t'.foot g) w' := (lookup_Table_move.both hT hI hm hv0 hv1 hk).1
theorem lookup_Table_move.callsD {g most sk : Nat} {cs : Array Value} {t : Tab.Tb} {w : World} (hT : Tab.TbAt 111 107 w g cs t) (hI : Tab.TInv tabHome sk t) (hm : most ≤ 1099511627776) (hv0 : 0 ≤ t.moves) (hv1 : t.moves + most < 18446744073709551616) (hk : t.now.sl.length ≤ 1099511627776) : ∀ u, CallsD Try.prog 84 #[.pointer (some ⟨g, 0, none⟩), .int .i64 (most : Int)] u w fun e u' w' => u' = u ∧ e = .returned (.tuple #[]) ∧ ∃ cs' t', Tab.TbAt 111 107 w' g cs' t' ∧ Tab.Moved tabHome sk most t t' ∧ Mut (t.foot g) w (t'.foot g) w' := (lookup_Table_move.both hT hI hm hv0 hv1 hk).2


/-! ### lookup_Table_grow: function 86 -/
-- by hand
set_option maxRecDepth 100000 in
set_option maxHeartbeats 4000000 in
theorem lookup_Table_grow.calls {g : Nat} {cs : Array Value} {t : Tab.Tb} {w : World} (hT : Tab.TbAt 111 107 w g cs t) (hI : Tab.TInv tabHome 0 t) (hc : Tab.cnt t.old.sl = 0) (hb : t.now.bits < 30) (hv0 : 0 ≤ t.moves) (hv1 : t.moves < 18446744073709551616) :
    Calls Try.prog 86 #[.pointer (some ⟨g, 0, none⟩)] w fun e w' => e = .returned (.tuple #[]) ∧ ∃ cs' t', Tab.TbAt 111 107 w' g cs' t' ∧ Tab.TInv tabHome 0 t' ∧ (∀ k v, t'.has k v ↔ t.has k v) ∧ t'.len = t.len ∧ t'.moves = t.moves ∧ t'.now.sl.length = 2 * t.now.sl.length ∧ t'.now.bits = t.now.bits + 1 ∧ t'.old.sl.length = t.now.sl.length ∧ Tab.cnt t'.now.sl = 0 ∧ Mut (t.foot g) w (t'.foot g) w' := by
  have hom := (Tab.MvInv.start hI).oldMany
  have hc5 : w.cell? ⟨g, 5, none⟩ = some (.int .i64 0) := ((blk_cell hT.old.blk 5).trans hT.old.c2).trans (by rw [hom, hc]; rfl)
  have hnl : t.now.sl.length ≤ 1099511627776 := by
    rw [hI.fit.len]
    exact Nat.le_trans (Nat.pow_le_pow_right (by decide) hI.fit.hi) (by decide)
  have hmv := lookup_Table_move.calls (most := 0) hT hI (by decide) hv0 (by omega) hnl
  rw [show ((0 : Nat) : Int) = 0 from rfl] at hmv
  have HMV := Aside0.mk hmv
  have HC := Aside0.mk hc
  have HI := Aside0.mk hI
  clear hmv hom hT hI hc
  go_enter Try.func86, Try.ntmps86
  go_wp2_with (first
    | (go_at_call 84; refine HMV.out.mono ?_; rintro e w1 ⟨rfl, cs1, t1, h1, h2, h3⟩; have HT1 := Aside0.mk h1; have HM1 := Aside0.mk h2; have HU1 := Aside0.mk h3; have hq0 : w1.cell? ⟨g, 0, none⟩ = some (.int .i64 (t1.now.bits : Int)) := (blk_cell h1.now.blk 0).trans h1.now.c0; obtain ⟨A1, hA1⟩ := Option.ne_none_iff_exists'.1 h2.inv.fit.adr; have hval : t1.now.val = .slice (some ⟨A1, 0, none⟩) t1.now.sl.length t1.now.sl.length := (by unfold Tab.Rw.val; rw [hA1]; rfl); have hq1 : w1.cell? ⟨g, 1, none⟩ = some (.slice (some ⟨A1, 0, none⟩) t1.now.sl.length t1.now.sl.length) := ((blk_cell h1.now.blk 1).trans h1.now.c1).trans (by rw [hval]); have HVAL := Aside0.mk hval; clear hval hA1; have hq2 : w1.cell? ⟨g, 2, none⟩ = some (.int .i64 t1.now.many) := (blk_cell h1.now.blk 2).trans h1.now.c2; have hq3 : w1.cell? ⟨g, 3, none⟩ = some (.int .i64 (t1.old.bits : Int)) := (blk_cell h1.old.blk 3).trans h1.old.c0; have hq4 : w1.cell? ⟨g, 4, none⟩ = some t1.old.val := (blk_cell h1.old.blk 4).trans h1.old.c1; have hq5 : w1.cell? ⟨g, 5, none⟩ = some (.int .i64 t1.old.many) := (blk_cell h1.old.blk 5).trans h1.old.c2; have hq6 : w1.cell? ⟨g, 6, none⟩ = some (.int .i64 (t1.frm : Int)) := (blk_cell h1.old.blk 6).trans h1.frm; have hqf : ∀ j, w1.frozen? ⟨g, j, none⟩ = false := fun j => blk_frozen h1.now.blk j; have hbb : t1.now.bits < 30 := (by rw [Tab.Fit.bits_eq h2.inv.fit HI.out.fit h2.nl]; exact hb); have hw : wrap64 ((t1.now.bits : Int) + 1) = (t1.now.bits : Int) + 1 := (by unfold wrap64; omega); have HBB := Aside0.mk hbb; clear h1 h2 h3 hbb)
    | (go_at_call 83; refine (lookup_fresh.calls_succ HBB.out).mono ?_; rintro e w3 ⟨A, rfl, h1, h2, h3⟩; have HA := Aside0.mk h1; have HLE := Aside0.mk h2; have HB := Aside0.mk h3; have hgl : g < w1.heap.size := blk_lt HT1.out.now.blk; have hk3 := (h3.block g (by simpa [World.setCell] using hgl)).trans (blk_set (blk_set (blk_set (blk_set HT1.out.now.blk 3 _) 4 _) 5 _) 6 _); have hz7 : 7 < cs1.size := (Array.getElem?_eq_some_iff.1 HT1.out.mov).1; have hx : ∀ i, i < 3 → ∃ v, w3.cell? ⟨g, i, none⟩ = some v := (fun i hi => ⟨_, (blk_cell hk3 i).trans (Array.getElem?_eq_getElem (by simp; omega))⟩); obtain ⟨x0, hx0⟩ := hx 0 (by decide); obtain ⟨x1, hx1⟩ := hx 1 (by decide); obtain ⟨x2, hx2⟩ := hx 2 (by decide); have hxf : ∀ j, w3.frozen? ⟨g, j, none⟩ = false := (fun j => blk_frozen hk3 j); clear h1 h2 h3 hx hk3 hz7 hgl))
  go_end0
  have hon : t1.old = Tab.none_ := HM1.out.non (by rw [HM1.out.cntO, HC.out])
  obtain ⟨cs', q1, q2⟩ := HT1.out.grow_ (w3 := w3) (A := A) (b := t1.now.bits + 1) (n := 2 ^ (t1.now.bits + 1)) (by rw [HVAL.out]; exact HB.out) HA.out (by rw [HVAL.out]; exact HLE.out) HM1.out.inv.fit.adr
  obtain ⟨g1, g2, g3⟩ := HM1.out.inv.grown hon HBB.out (fun x => (tabHome_is (t1.now.bits + 1) x (by omega) HBB.out).2) A
  refine ⟨rfl, cs', _, q1, g1, fun k v => (g2 k v).trans (HM1.out.has k v), g3.trans HM1.out.len, ?_, ?_, ?_, HM1.out.nl, Tab.cnt_rep _, HU1.out.trans q2⟩
  · show t1.moves = _
    rw [HM1.out.moves]; simp
  · show (List.replicate (2 ^ (t1.now.bits + 1)) Tab.z).length = _
    rw [List.length_replicate, ← HM1.out.nl, HM1.out.inv.fit.len, Nat.pow_succ]; omega
  · show t1.now.bits + 1 = _
    rw [Tab.Fit.bits_eq HM1.out.inv.fit HI.out.fit HM1.out.nl]

end Go.Proofs.Ytdjbpdahdakfjaa.PLook
