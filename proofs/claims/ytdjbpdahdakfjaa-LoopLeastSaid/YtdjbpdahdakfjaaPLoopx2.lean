-- Written by a program of this session (a turned copy of the kit's printer, texts of this session's own for functions that it does not take).
import Derived.Test.YtdjbpdahdakfjaaPLoopx0
namespace Go.Proofs.Ytdjbpdahdakfjaa.PLoop
open Go.RowKit Go.Proofs.YtdjbpdahdakfjaaW.PrintWords Go.Proofs.YtdjbpdahdakfjaaW.PrintLast Go.Proofs.YtdjbpdahdakfjaaW.PrintMore
attribute [local go_sem] max2_int min2_int max_two min_two max_three min_three max_four min_four   -- for this text's walks alone
set_option linter.unusedVariables false
set_option linter.unusedSimpArgs false


/-! ### loop_may: function 66 -/
def loop_may.f (a0 : Int) (a1 : Int) : Option (Bool) := some (decide (1 ≤ a0 ∧ 1 ≤ a1 ∧ a0 ≤ 4096 ∧ a1 ≤ 4096 / a0))
set_option maxHeartbeats 8000000 in
set_option maxRecDepth 100000 in
theorem loop_may.calls (a0 : Int) (a1 : Int) (r : Bool) (w : World) (h : loop_may.f a0 a1 = some r) :
    Calls Try.prog 66 #[.int .i64 a0, .int .i64 a1] w fun e w' => e = .returned (.bool r) ∧ Drawn0 w w' := by
  obtain rfl := Option.some.inj h
  clear h
  by_cases c3 : 1 ≤ a0
  · by_cases c4 : 1 ≤ a1
    · by_cases c5 : a0 ≤ 4096
      · have hq : wrap64 (Int.tdiv 4096 a0) = 4096 / a0 := by
          have e : Int.tdiv 4096 a0 = 4096 / a0 := Int.tdiv_eq_ediv_of_nonneg (by omega)
          have h0 : 0 ≤ 4096 / a0 := Int.ediv_nonneg (by omega) (by omega)
          have h1 : 4096 / a0 ≤ 4096 := Int.ediv_le_self _ (by omega)
          rw [e]; unfold wrap64; omega
        have hr : decide (1 ≤ a0 ∧ 1 ≤ a1 ∧ a0 ≤ 4096 ∧ a1 ≤ 4096 / a0) = decide (a1 ≤ 4096 / a0) := by
          apply decide_eq_decide.2
          exact ⟨fun h => h.2.2.2, fun h => ⟨c3, c4, c5, h⟩⟩
        have c6b0 : (a0 == 0) = false := beq_eq_false_iff_ne.mpr (by omega)
        have c6b1 : (a0 != 0) = true := bne_iff_ne.mpr (by omega)
        have c6 : ¬ a0 = 0 := by omega
        have HR := Aside0.mk hr
        have HQ := Aside0.mk hq
        clear hr hq
        go_enter Try.func66, Try.ntmps66
        go_wp2
        go_ret
        exact ⟨by rw [HR.out, ← HQ.out]; rfl, by repeat (first | exact Drawn0.refl _ | apply Drawn0.step)⟩
      · have hr : decide (1 ≤ a0 ∧ 1 ≤ a1 ∧ a0 ≤ 4096 ∧ a1 ≤ 4096 / a0) = false := decide_eq_false (fun h => c5 h.2.2.1)
        rw [hr]; clear hr
        have c5b0 : decide (a0 ≤ 4096) = false := decide_eq_false c5
        go_enter Try.func66, Try.ntmps66
        go_wp2
        go_ret
        exact ⟨rfl, by repeat (first | exact Drawn0.refl _ | apply Drawn0.step)⟩
    · have hr : decide (1 ≤ a0 ∧ 1 ≤ a1 ∧ a0 ≤ 4096 ∧ a1 ≤ 4096 / a0) = false := decide_eq_false (fun h => c4 h.2.1)
      rw [hr]; clear hr
      have c5b0 : decide (1 ≤ a1) = false := decide_eq_false c4
      go_enter Try.func66, Try.ntmps66
      go_wp2
      go_ret
      exact ⟨rfl, by repeat (first | exact Drawn0.refl _ | apply Drawn0.step)⟩
  · have hr : decide (1 ≤ a0 ∧ 1 ≤ a1 ∧ a0 ≤ 4096 ∧ a1 ≤ 4096 / a0) = false := decide_eq_false (fun h => c3 h.1)
    rw [hr]; clear hr
    have c5b0 : decide (1 ≤ a0) = false := decide_eq_false c3
    go_enter Try.func66, Try.ntmps66
    go_wp2
    go_ret
    exact ⟨rfl, by repeat (first | exact Drawn0.refl _ | apply Drawn0.step)⟩

/-! ### bits_Mul32: function 139 -/
def bits_Mul32.f (a0 : Int) (a1 : Int) : Option (Int × Int) := some (((IntKind.u64.wrap ((IntKind.u64.wrap (a0)) * (IntKind.u64.wrap (a1)))) / 4294967296) % 4294967296, (IntKind.u64.wrap ((IntKind.u64.wrap (a0)) * (IntKind.u64.wrap (a1)))) % 4294967296)
set_option maxHeartbeats 8000000 in
set_option maxRecDepth 100000 in
theorem bits_Mul32.calls (a0 : Int) (a1 : Int) (r1 : Int) (r2 : Int) (w : World) (h : bits_Mul32.f a0 a1 = some (r1, r2)) :
    Calls Try.prog 139 #[.int .u32 a0, .int .u32 a1] w fun e w' => e = .returned (.tuple #[.int .u32 r1, .int .u32 r2]) ∧ Drawn0 w w' := by
  have H : (some (((IntKind.u64.wrap ((IntKind.u64.wrap (a0)) * (IntKind.u64.wrap (a1)))) / 4294967296) % 4294967296, (IntKind.u64.wrap ((IntKind.u64.wrap (a0)) * (IntKind.u64.wrap (a1)))) % 4294967296)) = some (r1, r2) := h
  clear h
  simp only [Option.some.injEq, Prod.mk.injEq] at H
  obtain ⟨rfl, rfl⟩ := H
  go_enter Try.func139, Try.ntmps139
  go_wp2
  go_ret2
  exact ⟨by first | rfl | (simp; done) | (simp [*]; done), by repeat (first | exact Drawn0.refl _ | apply Drawn0.step)⟩

/-! ### bits_Mul64: function 140 -/
def bits_Mul64.f (a0 : Int) (a1 : Int) : Option (Int × Int) := some (IntKind.u64.wrap ((IntKind.u64.wrap ((IntKind.u64.wrap ((a0 / 4294967296) * (a1 / 4294967296))) + ((IntKind.u64.wrap ((IntKind.u64.wrap ((a0 / 4294967296) * (Go.bits .and .u64 a1 4294967295))) + ((IntKind.u64.wrap ((Go.bits .and .u64 a0 4294967295) * (Go.bits .and .u64 a1 4294967295))) / 4294967296))) / 4294967296))) + ((IntKind.u64.wrap ((Go.bits .and .u64 (IntKind.u64.wrap ((IntKind.u64.wrap ((a0 / 4294967296) * (Go.bits .and .u64 a1 4294967295))) + ((IntKind.u64.wrap ((Go.bits .and .u64 a0 4294967295) * (Go.bits .and .u64 a1 4294967295))) / 4294967296))) 4294967295) + (IntKind.u64.wrap ((Go.bits .and .u64 a0 4294967295) * (a1 / 4294967296))))) / 4294967296)), IntKind.u64.wrap (a0 * a1))
set_option maxHeartbeats 8000000 in
set_option maxRecDepth 100000 in
theorem bits_Mul64.calls (a0 : Int) (a1 : Int) (r1 : Int) (r2 : Int) (w : World) (h : bits_Mul64.f a0 a1 = some (r1, r2)) :
    Calls Try.prog 140 #[.int .u64 a0, .int .u64 a1] w fun e w' => e = .returned (.tuple #[.int .u64 r1, .int .u64 r2]) ∧ Drawn0 w w' := by
  have H : (some (IntKind.u64.wrap ((IntKind.u64.wrap ((IntKind.u64.wrap ((a0 / 4294967296) * (a1 / 4294967296))) + ((IntKind.u64.wrap ((IntKind.u64.wrap ((a0 / 4294967296) * (Go.bits .and .u64 a1 4294967295))) + ((IntKind.u64.wrap ((Go.bits .and .u64 a0 4294967295) * (Go.bits .and .u64 a1 4294967295))) / 4294967296))) / 4294967296))) + ((IntKind.u64.wrap ((Go.bits .and .u64 (IntKind.u64.wrap ((IntKind.u64.wrap ((a0 / 4294967296) * (Go.bits .and .u64 a1 4294967295))) + ((IntKind.u64.wrap ((Go.bits .and .u64 a0 4294967295) * (Go.bits .and .u64 a1 4294967295))) / 4294967296))) 4294967295) + (IntKind.u64.wrap ((Go.bits .and .u64 a0 4294967295) * (a1 / 4294967296))))) / 4294967296)), IntKind.u64.wrap (a0 * a1))) = some (r1, r2) := h
  clear h
  simp only [Option.some.injEq, Prod.mk.injEq] at H
  obtain ⟨rfl, rfl⟩ := H
  go_enter Try.func140, Try.ntmps140
  go_wp2
  go_ret2
  exact ⟨by first | rfl | (simp; done) | (simp [*]; done), by repeat (first | exact Drawn0.refl _ | apply Drawn0.step)⟩

/-! ### bits_Mul: function 117 -/
def bits_Mul.f (a0 : Int) (a1 : Int) : Option (Int × Int) := (bits_Mul64.f a0 a1).bind fun bt101 => (some (bt101.1, bt101.2))
set_option maxHeartbeats 8000000 in
set_option maxRecDepth 100000 in
theorem bits_Mul.calls (a0 : Int) (a1 : Int) (r1 : Int) (r2 : Int) (w : World) (h : bits_Mul.f a0 a1 = some (r1, r2)) :
    Calls Try.prog 117 #[.int .u64 a0, .int .u64 a1] w fun e w' => e = .returned (.tuple #[.int .u64 r1, .int .u64 r2]) ∧ Drawn0 w w' := by
  have H : ((bits_Mul64.f a0 a1).bind fun bt101 => (some (bt101.1, bt101.2))) = some (r1, r2) := h
  clear h
  replace H := Option.bind_eq_some_iff.mp H
  obtain ⟨⟨t101, t102⟩, A30, H⟩ := H
  replace H : (some (t101, t102)) = some (r1, r2) := H
  have A3 := Aside0.mk A30
  clear A30
  simp only [Option.some.injEq, Prod.mk.injEq] at H
  obtain ⟨rfl, rfl⟩ := H
  go_enter Try.func117, Try.ntmps117
  go_wp2_with (first | ((with_reducible refine gate_callee (f := 140) rfl ?_); refine goesL_ (some 25) rfl rfl Try.func140 (by kernel_rfl) rfl #[.int .u64 a0, .int .u64 a1] rfl (by (try simp only [List.map_toArray, List.map_cons, List.map_nil]); first | done | rfl | (simp only [List.length_drop, List.length_take]; rfl)) ?_; (with_reducible refine (bits_Mul64.calls a0 a1 t101 t102 _ A3.out).mono ?_); rintro e w' ⟨rfl, ⟨nd, rfl⟩⟩; refine ⟨_, rfl, ?_⟩))
  go_ret2
  exact ⟨by first | rfl | (simp; done) | (simp [*]; done), by repeat (first | exact Drawn0.refl _ | apply Drawn0.step)⟩


/-! ### slices_Repeat_uint64_uint64: function 98 -/
def slices_Repeat_uint64_uint64.f (a0 : List Int) (a1 : Int) : Option (List Int) := if 1 ≤ a1 ∧ a1 ≤ 4096 ∧ 0 < a0.length ∧ a0.length ≤ 4096 then some (List.replicate a1.toNat a0).flatten else none
theorem mul_small (x y : Int) (hx : 0 ≤ x) (hx' : x ≤ 4096) (hy : 0 ≤ y) (hy' : y ≤ 4096) : bits_Mul.f x y = some (0, x * y) := by
  have ex : Go.bits .and .u64 x 4294967295 = x := by
    obtain ⟨n, rfl⟩ := Int.eq_ofNat_of_zero_le hx
    have h := bits_and_u64_nat n 4294967295 (by omega) (by omega)
    have e : n &&& 4294967295 = n % 4294967296 := Nat.and_two_pow_sub_one_eq_mod n 32
    rw [e, Nat.mod_eq_of_lt (by omega)] at h
    exact h
  have ey : Go.bits .and .u64 y 4294967295 = y := by
    obtain ⟨n, rfl⟩ := Int.eq_ofNat_of_zero_le hy
    have h := bits_and_u64_nat n 4294967295 (by omega) (by omega)
    have e : n &&& 4294967295 = n % 4294967296 := Nat.and_two_pow_sub_one_eq_mod n 32
    rw [e, Nat.mod_eq_of_lt (by omega)] at h
    exact h
  have dx : x / 4294967296 = 0 := by omega
  have dy : y / 4294967296 = 0 := by omega
  have hp : 0 ≤ x * y := Int.mul_nonneg hx hy
  have hp2 : x * y ≤ 16777216 := by
    calc x * y ≤ 4096 * 4096 := Int.mul_le_mul hx' hy' hy (by omega)
      _ = 16777216 := by omega
  have dp : x * y / 4294967296 = 0 := by omega
  have e0 : Go.bits .and .u64 0 4294967295 = 0 := by decide
  have w0 : IntKind.u64.wrap 0 = 0 := by decide
  have w1 : IntKind.u64.wrap (x * y) = x * y := by rw [IntKind.wrap_u64]; omega
  simp [bits_Mul.f, bits_Mul64.f, ex, ey, dx, dy, w0, w1, dp, e0]
theorem made_nums (k : IntKind) (m : Nat) : madeCells #[Value.int k 0] m = (nums k (List.replicate m 0)).toArray := by
  apply Array.toList_inj.1
  apply List.ext_getElem
  · simp [nums, madeCells]
  · intro i h1 h2
    simp [nums, madeCells, Nat.mod_one]
theorem heap_new (W : World) (o : Obj) : (W.alloc o).heap[W.heap.size]? = some o := by simpa using heap_alloc_new W o
theorem repeat_take (l : List Int) (a n c : Nat) (hn : ∃ q, n = q * l.length) (hnm : n ≤ a * l.length) (hc : c = Nat.min n (a * l.length - n)) :
    splice (((List.replicate a l).flatten.take n) ++ List.replicate (a * l.length - n) (0 : Int)) n ((List.replicate a l).flatten.take c) = ((List.replicate a l).flatten.take (n + c)) ++ List.replicate (a * l.length - (n + c)) (0 : Int) := by
  obtain ⟨q, rfl⟩ := hn
  have hlen : (List.replicate a l).flatten.length = a * l.length := by simp
  have hcle : c ≤ a * l.length - q * l.length := by rw [hc]; exact Nat.min_le_right _ _
  have hpre : ((List.replicate a l).flatten.take (q * l.length)).length = q * l.length := by rw [List.length_take, hlen]; omega
  have hql : q ≤ a ∨ l.length = 0 := by
    rcases Nat.eq_zero_or_pos l.length with h | h
    · exact .inr h
    · exact .inl (Nat.le_of_mul_le_mul_right hnm h)
  have hshift : (List.replicate a l).flatten.drop (q * l.length) = (List.replicate (a - q) l).flatten := by
    rcases hql with h | h
    · have e : a = q + (a - q) := by omega
      have e2 : List.replicate a l = List.replicate q l ++ List.replicate (a - q) l := by rw [List.replicate_append_replicate]; congr 1
      rw [e2, List.flatten_append, List.drop_left' (by simp)]
    · have : l = [] := List.eq_nil_of_length_eq_zero h
      subst this
      simp
  have htk : ∀ b, c ≤ b * l.length → (List.replicate b l).flatten.take c = (List.replicate a l).flatten.take c := by
    intro b hb
    have hab : ∀ x y : Nat, x ≤ y → c ≤ x * l.length → (List.replicate x l).flatten.take c = (List.replicate y l).flatten.take c := by
      intro x y hxy hx
      have e2 : List.replicate y l = List.replicate x l ++ List.replicate (y - x) l := by rw [List.replicate_append_replicate]; congr 1; omega
      rw [e2, List.flatten_append, List.take_append_of_le_length (by simpa using hx)]
    rcases Nat.le_total b a with h | h
    · exact hab b a h hb
    · exact (hab a b h (by omega)).symm
  unfold splice
  have hcl : ((List.replicate a l).flatten.take c).length = c := by rw [List.length_take, hlen]; omega
  rw [hcl, List.take_left' hpre, List.drop_append, hpre, List.drop_eq_nil_of_le (by omega), List.nil_append, List.drop_replicate]
  have e3 : (List.replicate a l).flatten.take (q * l.length + c) = (List.replicate a l).flatten.take (q * l.length) ++ (List.replicate a l).flatten.take c := by
    rw [List.take_add, hshift, htk (a - q) (by rw [Nat.sub_mul]; omega)]
  rw [e3, List.append_assoc]
  congr 3
  omega
theorem nums_splice (k : IntKind) (L : List Int) (n : Nat) (cs : List Int) : splice (nums k L) n (nums k cs) = nums k (splice L n cs) := by
  simp [splice, nums]
set_option maxHeartbeats 800000 in
set_option maxRecDepth 100000 in
theorem slices_Repeat_uint64_uint64.calls (A0 : Option Addr) (c0 : Nat) (l0 : List Int) (a1 : Int) (r : List Int) (w : World) (hr0 : Kd.C (Kd.int .u64) w A0 l0.length l0) (hc0 : l0.length ≤ c0) (h : slices_Repeat_uint64_uint64.f l0 a1 = some r) :
    Calls Try.prog 98 #[.slice A0 l0.length c0, .int .i64 a1] w fun e w' => ∃ v0_ : Value, e = .returned (v0_) ∧ Kd.R (Kd.int .u64) 60 w' w.heap.size (fun _ => True) v0_ r ∧ Below w.heap.size w w' := by
  unfold slices_Repeat_uint64_uint64.f at h
  by_cases hh : 1 ≤ a1 ∧ a1 ≤ 4096 ∧ 0 < l0.length ∧ l0.length ≤ 4096
  · rw [if_pos hh] at h
    obtain rfl := Option.some.inj h
    clear h
    obtain ⟨h1, h2, h3, h4⟩ := hh
    obtain ⟨a, rfl⟩ := Int.eq_ofNat_of_zero_le (show 0 ≤ a1 by omega)
    rw [Int.toNat_natCast]
    have hm : bits_Mul.f (l0.length : Int) (a : Int) = some (0, ((a * l0.length : Nat) : Int)) := by rw [mul_small _ _ (by omega) (by omega) (by omega) h2, Int.natCast_mul, Int.mul_comm]
    have HM := Aside0.mk hm
    clear hm
    have hm1 : a * l0.length ≤ 16777216 := Nat.le_trans (Nat.mul_le_mul (show a ≤ 4096 by omega) h4) (by omega)
    have hm2 : l0.length ≤ a * l0.length := Nat.le_mul_of_pos_left _ (by omega)
    obtain ⟨m, hmd⟩ : ∃ m, m = a * l0.length := ⟨_, rfl⟩
    rw [← hmd] at HM hm1 hm2
    have HMD := Aside0.mk hmd
    clear hmd
    have w1 : IntKind.u64.wrap (l0.length : Int) = (l0.length : Int) := by rw [IntKind.wrap_u64]; omega
    have w2 : IntKind.u64.wrap (a : Int) = (a : Int) := by rw [IntKind.wrap_u64]; omega
    have n1 : decide ((a : Int) < 0) = false := decide_eq_false (by omega)
    have hmk := print_make (P := Try.prog) 22 60 .u64 8 Try.underlying22 info60 (by decide) m (by omega)
    have hsz : (Try.prog.info? 60).map (·.size) = some 1 := by kernel_rfl
    have HSZ := Aside0.mk hsz
    clear hsz
    obtain ⟨cs, hcs⟩ : ∃ cs, cs = nums .u64 l0 := ⟨_, rfl⟩
    have hcl : cs.length = l0.length := by rw [hcs, nums_length]
    have h11 : ∀ v ∈ cs, v.oneCell' = true := by rw [hcs]; intro v hv; simp [nums] at hv; obtain ⟨x, _, rfl⟩ := hv; rfl
    have HCS := Aside0.mk hcs
    have HCL := Aside0.mk hcl
    have H11 := Aside0.mk h11
    clear hcs hcl h11
    obtain ⟨Z, hZ⟩ : ∃ Z, Z = nums .u64 (List.replicate m 0) := ⟨_, rfl⟩
    have hZl : Z.length = m := by rw [hZ, nums_length, List.length_replicate]
    have HZ := Aside0.mk hZ
    have HZL := Aside0.mk hZl
    clear hZ hZl
    have HR0 := Aside0.mk hr0
    clear hr0
    have HB0 : Aside0 (∀ {w'}, Drawn0 w w' → Below w.heap.size w w') := ⟨fun h => h.below⟩
    have k1 : Aside0 (∀ W : World, (W.alloc (.cells (madeCells #[.int .u64 0] m) 60)).heap[W.heap.size]? = some (.cells Z.toArray 60 (0, 0))) := ⟨fun W => by rw [made_nums, ← HZ.out]; exact heap_new _ _⟩
    have k2 : Aside0 (cs.length = Nat.min l0.length m) := ⟨by rw [HCL.out]; exact (Nat.min_eq_left hm2).symm⟩
    have k3 : Aside0 (∀ {w' : World}, Drawn0 w w' → ∀ o : Obj, ∃ ad, A0 = some ad ∧ ∀ j v, cs[j]? = some v → (w'.alloc o).cell? (ad.add j) = some v) := ⟨by
      intro w' hd o
      obtain ⟨ad, e, hc⟩ := (Kd.reads_of_C (d := (0 : Int)) (h1 := fun _ => rfl) (Kd.C_below (Kd.C_below HR0.out hd.below) (below_alloc (Below.refl _ _) o))).2.2 h3
      refine ⟨ad, e, fun j v hj => ?_⟩
      rw [HCS.out] at hj
      simp only [nums, List.getElem?_map, Option.map_eq_some_iff] at hj
      obtain ⟨x, hx, rfl⟩ := hj
      obtain ⟨hl, hx'⟩ := List.getElem?_eq_some_iff.1 hx
      rw [hc j hl, ← hx', List.getD_eq_getElem?_getD, List.getElem?_eq_getElem hl]; rfl⟩
    have k4 : Aside0 (0 + cs.length ≤ Z.length) := ⟨by rw [HCL.out, HZL.out]; omega⟩
    go_enter Try.func98, Try.ntmps98
    go_wp2_with (first | (go_at_call 117; refine (bits_Mul.calls _ _ _ _ _ HM.out).mono ?_; rintro e w' ⟨rfl, hd⟩) | ((with_reducible refine wpList_copy_splice rfl (.tmp 31) (.tmp 32) 22 22 rfl 60 Try.underlying22 HSZ.out _ _ _ _ _ _ rfl rfl w'.heap.size 0 Z 60 (k1.out _) cs k2.out (fun _ => ⟨rfl, k3.out hd _⟩) k4.out H11.out w.heap.size w (below_alloc (HB0.out hd) _) (HB0.out hd).size ?_); intro w2 HG2 hB2))
    have hcl0 := HCL.out
    rw [hcl0]
    clear hcl0
    obtain ⟨g, hg⟩ : ∃ g, g = w'.heap.size := ⟨_, rfl⟩
    rw [← hg] at HG2 ⊢
    have hgw : w.heap.size ≤ g := by rw [hg]; exact (HB0.out hd).size
    have HGw := Aside0.mk hgw
    clear hg hgw
    obtain ⟨T, hT⟩ : ∃ T, T = (List.replicate a l0).flatten := ⟨_, rfl⟩
    have hT0 : T.length = m := by rw [hT, HMD.out]; simp
    have HT := Aside0.mk hT
    have HT0 := Aside0.mk hT0
    clear hT hT0
    have hst : Aside0 (w2.heap[g]? = some (.cells (nums .u64 (T.take l0.length ++ List.replicate (m - l0.length) 0)).toArray 60 (0, 0))) := by
      refine ⟨?_⟩
      rw [HG2, HZ.out, HCS.out, nums_splice]
      have e1 : T.take l0.length = l0 := by
        have e2 : List.replicate a l0 = l0 :: List.replicate (a - 1) l0 := by rw [← List.replicate_succ]; congr 1; omega
        rw [HT.out, e2, List.flatten_cons, List.take_left' rfl]
      rw [e1]
      simp [splice]
    clear HG2
    have HB2 := Aside0.mk hB2
    clear hB2
    go_loopw [8] (fun v8 wr => ∃ n : Nat, v8 = .int .i64 n ∧ n ≤ m ∧ 0 < n ∧ Aside0 (∃ q, n = q * l0.length) ∧ Aside0 (wr.heap[g]? = some (.cells (nums .u64 (T.take n ++ List.replicate (m - n) 0)).toArray 60 (0, 0))) ∧ Aside0 (Below w.heap.size w wr)) (fun v8 _ => m - (intOf v8).toNat)
    case atStart => exact ⟨l0.length, rfl, hm2, h3, ⟨1, by omega⟩, hst, HB2⟩
    case round =>
      obtain ⟨n, rfl, hn, hn0, Hq, HG, HB⟩ := hrel
      by_cases hlt : n < m
      · obtain ⟨c, hc⟩ : ∃ c, c = Nat.min n (m - n) := ⟨_, rfl⟩
        obtain ⟨C, hC⟩ : ∃ C, C = nums .u64 (T.take c) := ⟨_, rfl⟩
        replace hc : c = min n (m - n) := hc
        have hCl : C.length = c := by rw [hC, nums_length, List.length_take, HT0.out]; omega
        have hc2 : 0 < c ∧ c ≤ n ∧ n + c ≤ m := by omega
        have hc6 : c = Nat.min n (m - n) := hc
        obtain ⟨hc3, hc4, hc5⟩ := hc2
        have HC := Aside0.mk hC
        have HCl := Aside0.mk hCl
        have Hc := Aside0.mk hc6
        clear hC hCl hc hc6
        obtain ⟨L, hL⟩ : ∃ L, L = nums .u64 (T.take n ++ List.replicate (m - n) 0) := ⟨_, rfl⟩
        rw [← hL] at HG
        have HL := Aside0.mk hL
        have hLl : L.length = m := by rw [hL, nums_length, List.length_append, List.length_take, HT0.out, List.length_replicate]; omega
        have HLl := Aside0.mk hLl
        clear hL hLl
        have s1 : ∀ W : World, (Instr.slice 22 (.slice (some ⟨g, 0, none⟩) m m) (some (.int .i64 (n : Int))) none none).run Try.prog W = .ok (.slice (some ⟨g, n, none⟩) (m - n) (m - n)) W := by
          intro W
          obtain ⟨i0, hi, hzz⟩ := Option.map_eq_some_iff.1 info60
          simp only [Prod.mk.injEq] at hzz
          have h := cut_from (P := Try.prog) 22 60 .i64 Try.underlying22 hi 1 hzz.2.1 (some ⟨g, 0, none⟩) m m (n : Int) (by omega) (by omega) W
          rw [Int.toNat_natCast, if_neg (by omega), Nat.mul_one] at h
          rw [h]; simp [Addr.add]; omega
        have s2 : ∀ W : World, (Instr.slice 22 (.slice (some ⟨g, 0, none⟩) m m) none (some (.int .i64 (n : Int))) none).run Try.prog W = .ok (.slice (some ⟨g, 0, none⟩) n m) W := by
          intro W
          obtain ⟨i0, hi, hzz⟩ := Option.map_eq_some_iff.1 info60
          have h := cut_to (P := Try.prog) 22 60 .i64 Try.underlying22 hi (some ⟨g, 0, none⟩) m m (n : Int) (by omega) (by omega) (by omega) W
          rw [Int.toNat_natCast] at h
          exact h
        have h12 : ∀ v ∈ C, v.oneCell' = true := by rw [HC.out]; intro v hv; obtain ⟨x, _, rfl⟩ := List.mem_map.1 hv; rfl
        have H12 := Aside0.mk h12
        clear h12
        have s5 : Aside0 (∀ j v, C[j]? = some v → wr.cell? ((⟨g, 0, none⟩ : Addr).add j) = some v) := ⟨by
          intro j v hj
          have hjl : j < c := by have := (List.getElem?_eq_some_iff.1 hj).1; have := HCl.out; omega
          rw [add_plain, blk_cell HG.out]
          simp only [List.getElem?_toArray]
          rw [HC.out] at hj
          rw [HL.out]
          simp only [nums, List.map_append, List.map_take] at hj ⊢
          rw [List.getElem?_append_left (by rw [List.length_take, List.length_map, HT0.out]; omega)]
          rw [List.getElem?_take_of_lt (by omega)] at hj ⊢
          exact hj⟩
        have s6 : IntKind.i64.wrap ((n : Int) + ↑C.length) = ((n + c : Nat) : Int) := by rw [HCl.out, IntWalk.i64_in _ (by omega)]; omega
        go_wp2
        go_region_law (refine step_copy_splice rfl (.tmp 41) (.tmp 44) 22 22 rfl 60 Try.underlying22 HSZ.out (some ⟨g, n, none⟩) (some ⟨g, 0, none⟩) (m - n) (m - n) n m (by simp [Act.eval, Act.put]) (by simp [Act.eval, Act.put]) g n L 60 (by exact HG.out) C (HCl.out.trans Hc.out) (by exact fun _ => ⟨rfl, _, rfl, s5.out⟩) (by rw [HCl.out, HLl.out]; omega) H12.out w.heap.size w (by repeat (first | exact HB.out | apply pw_below_drewN | apply below_drew)) (by exact HGw.out) ?_; intro w4 HG4 hB4)
        have hg5 : Aside0 (w4.heap[g]? = some (.cells (nums .u64 (T.take (n + c) ++ List.replicate (m - (n + c)) 0)).toArray 60 (0, 0))) := by
          refine ⟨?_⟩
          rw [HG4, HL.out, HC.out, nums_splice, HT.out, HMD.out]
          obtain ⟨q, hq⟩ := Hq.out
          rw [repeat_take l0 a n c ⟨q, hq⟩ (by rw [← HMD.out]; omega) (by rw [← HMD.out]; exact Hc.out)]
        have hq5 : Aside0 (∃ q, n + c = q * l0.length) := by
          obtain ⟨q, hq⟩ := Hq.out
          have hcc : c = min n (m - n) := Hc.out
          refine ⟨?_⟩
          by_cases hh : n ≤ m - n
          · exact ⟨q + q, by rw [Nat.add_mul, ← hq]; omega⟩
          · exact ⟨a, by rw [← HMD.out]; omega⟩
        have HB4 := Aside0.mk hB4
        clear hB4 HG4
        simp only [Act.put, List.getElem_toArray, List.getElem_cons_succ, List.getElem_cons_zero, List.setIfInBounds_toArray, List.set_cons_succ, List.set_cons_zero]
        go_wp2
        go_roundw
        case rel => exact ⟨n + c, by go_num, by omega, by omega, hq5, hg5, HB4⟩
        case measure => simp [intOf]; omega
      · go_wp2
        go_ret
        have hnm : n = m := by omega
        subst hnm
        refine ⟨.slice (some ⟨g, 0, none⟩) n n, rfl, ?_, HB.out⟩
        refine Kd.R_of_own ?_ (fun _ _ => trivial)
        rw [← HT.out]
        refine ⟨by simp [encs], .inr ⟨g, n, _, by rw [HT0.out], HGw.out, HG.out, by rw [HT0.out]; exact Nat.le_refl _, by simp [maxLen]; omega, by simp [nums, HT0.out], ?_⟩⟩
        have h5 := HT0.out
        have h6 : T.take n = T := List.take_of_length_le (by omega)
        rw [h6, h5]
        simp [nums, encs, h5, ← List.map_take, h6]
  · rw [if_neg hh] at h
    exact absurd h (by simp)

/-! ### trace_Loop: function 67 -/
def trace_Loop.j0 : Nat → List Int → Int → Bool → Option (List Int × Int)
  | 0, _, _, _ => none
  | k + 1, x0, x1, x12 => if x12 = true then (some (([] : List Int), 0)) else (if (x0.length : Int) = 0 then (none) else (if x1 > ((4096 : Int) / (x0.length : Int)) then (some (([] : List Int), 6)) else ((slices_Repeat_uint64_uint64.f x0 x1).bind fun t103 => (some (t103, 0)))))
def trace_Loop.f (k : Nat) (l0 : List Int) (a1 : Int) : Option (List Int × Int) := if (l0.length : Int) = 0 then (trace_Loop.j0 k l0 a1 true) else (trace_Loop.j0 k l0 a1 (decide (a1 < 1)))
theorem trace_Loop.mono_l : ∀ k, (∀ y0 y1 y2, LeO (trace_Loop.j0 k y0 y1 y2) (trace_Loop.j0 (k + 1) y0 y1 y2))
  | 0 => fun _ _ _ r h => by simp [trace_Loop.j0] at h
  | k + 1 => by
    have ih0 := trace_Loop.mono_l k
    · intro y0 y1 y2
      unfold trace_Loop.j0
      repeat' first
      | (with_reducible exact ih0 _ _ _)
      | (with_reducible exact LeO.refl _)
      | (with_reducible exact LeO.none _)
      | (with_reducible refine LeO.ite ?_ ?_)
      | (with_reducible refine LeO.bind ?_ (fun _ => ?_))
      | exact ih0 _ _ _
      | exact LeO.none _
      | refine LeO.ite ?_ ?_
      | refine LeO.bind ?_ (fun _ => ?_)
theorem trace_Loop.mono : ∀ a0 a1 k, LeO (trace_Loop.f k a0 a1) (trace_Loop.f (k + 1) a0 a1) := by
  intro a0 a1 k
  have ih0 := trace_Loop.mono_l k
  unfold trace_Loop.f
  repeat' first
      | (with_reducible exact ih0 _ _ _)
      | (with_reducible exact LeO.refl _)
      | (with_reducible exact LeO.none _)
      | (with_reducible refine LeO.ite ?_ ?_)
      | (with_reducible refine LeO.bind ?_ (fun _ => ?_))
      | exact ih0 _ _ _
      | exact LeO.none _
      | refine LeO.ite ?_ ?_
      | refine LeO.bind ?_ (fun _ => ?_)
set_option maxHeartbeats 8000000 in
set_option maxRecDepth 100000 in
theorem trace_Loop.calls (k : Nat) (A0 : Option Addr) (c0 : Nat) (l0 : List Int) (a1 : Int) (r1 : List Int) (r2 : Int) (w : World) (hr0 : Kd.C (Kd.int .u64) w A0 l0.length l0) (hc0 : l0.length ≤ c0) (h : trace_Loop.f k l0 a1 = some (r1, r2)) :
    Calls Try.prog 67 #[.slice A0 l0.length c0, .int .i64 a1] w fun e w' => ∃ v0_ : Value, e = .returned (.tuple #[v0_, .int .i64 r2]) ∧ Kd.R (Kd.int .u64) 60 w' w.heap.size (fun _ => True) v0_ r1 ∧ Below w.heap.size w w' := by
  have HR0 := Aside0.mk hr0
  have HC0 := Aside0.mk hc0
  clear hr0 hc0
  have HB := Aside0.mk (Below.refl w.heap.size w)
  have H : (if (l0.length : Int) = 0 then (trace_Loop.j0 k l0 a1 true) else (trace_Loop.j0 k l0 a1 (decide (a1 < 1)))) = some (r1, r2) := h
  clear h
  have HC3 := Aside0.mk H
  clear H
  go_enter Try.func67, Try.ntmps67
  go_upto_region 1 with (fail)
  go_cut [12] (fun v12 wc => ∃ (kq : Nat) (x12_2 : Bool), v12 = .bool x12_2 ∧ Aside0 (trace_Loop.j0 kq l0 a1 x12_2 = some (r1, r2)) ∧ Aside0 (kq ≤ k) ∧ Aside0 (Below w.heap.size w wc))
  case first =>
    have H := HC3.out
    clear HC3
    by_cases c4 : (l0.length : Int) = 0
    · rw [if_pos c4] at H
      have c4b0 : ((l0.length : Int) == 0) = true := beq_iff_eq.mpr c4
      have c4b1 : ((l0.length : Int) != 0) = false := bne_eq_false_iff_eq.mpr c4
      clear c4
      (first | rw [c4b0] | (simp only [i64_w, i32_w]; rw [c4b0]) | skip)
      have H' := Aside0.mk H
      clear H
      go_wp2
      go_meet
      case rel => exact ⟨_, (true), (by first | rfl | (simp; done) | (simp [*]; done)), H', ⟨by first | omega | exact Nat.le_refl _⟩, ⟨by repeat (first | (with_reducible first | exact HB.out | apply below_alloc | apply pw_below_drewN | apply below_drew1) | exact HB.out)⟩⟩
    · rw [if_neg c4] at H
      have c4b0 : ((l0.length : Int) == 0) = false := beq_eq_false_iff_ne.mpr c4
      have c4b1 : ((l0.length : Int) != 0) = true := bne_iff_ne.mpr c4
      have c4b2 : ¬ (l0 = []) := fun h_ => c4 (by rw [h_]; rfl)
      (first | rw [c4b0] | (simp only [i64_w, i32_w]; rw [c4b0]) | skip)
      have H' := Aside0.mk H
      clear H
      go_wp2
      go_meet
      case rel => exact ⟨_, (decide (a1 < 1)), (by first | rfl | (simp; done) | (simp [*]; done)), H', ⟨by first | omega | exact Nat.le_refl _⟩, ⟨by repeat (first | (with_reducible first | exact HB.out | apply below_alloc | apply pw_below_drewN | apply below_drew1) | exact HB.out)⟩⟩
  case rest =>
    clear HC3
    try clear p2
    try clear c4
    try clear c4b0
    try clear c4b1
    try clear c4b2
    obtain ⟨kq, x12_2, rfl, HA, HJ2, HB⟩ := hcut
    cases kq with
    | zero => exact absurd HA.out (by simp [trace_Loop.j0])
    | succ kj2 =>
      have H := HA.out
      clear HA
      simp only [trace_Loop.j0] at H
      by_cases c5 : x12_2 = true
      · subst c5
        have H1 : (some (([] : List Int), 0)) = some (r1, r2) := by rw [if_pos rfl] at H; exact H
        clear H
        have H := H1
        clear H1
        simp only [Option.some.injEq, Prod.mk.injEq] at H
        obtain ⟨rfl, rfl⟩ := H
        go_wp2
        go_ret2
        exact ⟨_, by first | rfl | (simp [errW_none, errW_some] <;> rfl) | (simp [*, errW_none, errW_some] <;> rfl), by first | exact Kd.R_nil _ _ _ _ _ | exact Kd.N_nil _ _ _ _ _ | exact Kd.V_nil _ _ _ _ _ | exact Kd.Q_nil _ _ _ _ _ | exact Kd.S_nil _ _ _ _ _, by repeat (first | (with_reducible first | exact HB.out | apply below_alloc | apply pw_below_drewN | apply below_drew1) | exact HB.out)⟩
      · replace c5 := Bool.eq_false_iff.mpr c5
        subst c5
        have H1 : (if (l0.length : Int) = 0 then (none) else (if a1 > ((4096 : Int) / (l0.length : Int)) then (some (([] : List Int), 6)) else ((slices_Repeat_uint64_uint64.f l0 a1).bind fun t103 => (some (t103, 0))))) = some (r1, r2) := by rw [if_neg (show ¬ (false = true) by decide)] at H; exact H
        clear H
        have H := H1
        clear H1
        by_cases c6 : (l0.length : Int) = 0
        · rw [if_pos c6] at H
          exact absurd H (by simp)
        · rw [if_neg c6] at H
          have c6b0 : ((l0.length : Int) == 0) = false := beq_eq_false_iff_ne.mpr c6
          have c6b1 : ((l0.length : Int) != 0) = true := bne_iff_ne.mpr c6
          have c6b2 : ¬ (l0 = []) := fun h_ => c6 (by rw [h_]; rfl)
          by_cases c7 : a1 > ((4096 : Int) / (l0.length : Int))
          · rw [if_pos c7] at H
            have c7b0 : decide (((4096 : Int) / (l0.length : Int)) < a1) = true := decide_eq_true c7
            clear c7
            simp only [Option.some.injEq, Prod.mk.injEq] at H
            obtain ⟨rfl, rfl⟩ := H
            go_wp2
            go_ret2
            exact ⟨_, by first | rfl | (simp [errW_none, errW_some] <;> rfl) | (simp [*, errW_none, errW_some] <;> rfl), by first | exact Kd.R_nil _ _ _ _ _ | exact Kd.N_nil _ _ _ _ _ | exact Kd.V_nil _ _ _ _ _ | exact Kd.Q_nil _ _ _ _ _ | exact Kd.S_nil _ _ _ _ _, by repeat (first | (with_reducible first | exact HB.out | apply below_alloc | apply pw_below_drewN | apply below_drew1) | exact HB.out)⟩
          · rw [if_neg c7] at H
            have c7b0 : decide (((4096 : Int) / (l0.length : Int)) < a1) = false := decide_eq_false c7
            clear c7
            replace H := Option.bind_eq_some_iff.mp H
            obtain ⟨t103, A80, H⟩ := H
            replace H : (some (t103, 0)) = some (r1, r2) := H
            have A8 := Aside0.mk A80
            clear A80
            simp only [Option.some.injEq, Prod.mk.injEq] at H
            obtain ⟨rfl, rfl⟩ := H
            go_wp2_with (first | ((with_reducible refine gate_callee (f := 98) rfl ?_); refine goesL_ (some 20) rfl rfl Try.func98 (by kernel_rfl) rfl #[.slice A0 l0.length c0, .int .i64 a1] rfl (by (try simp only [List.map_toArray, List.map_cons, List.map_nil]); first | done | rfl | (simp only [List.length_drop, List.length_take]; rfl)) ?_; (with_reducible refine (slices_Repeat_uint64_uint64.calls _ _ l0 a1 t103 _ ?side1 ?side2 A8.out).mono ?_); (case side1 => repeat (first | exact (Kd.C_below HR0.out HB.out) | (with_reducible refine Kd.C_alloc ?_ _) | (with_reducible refine Kd.C_drewN ?_ _) | (with_reducible refine Kd.C_drew ?_))); (case side2 => exact HC0.out); rintro e w9 ⟨v104, rfl, ho0, hb⟩; refine ⟨_, rfl, ?_⟩; have n0_ := Aside0.mk (Kd.R_lower ho0 (below_size (by repeat (first | (with_reducible first | exact HB.out | apply below_alloc | apply pw_below_drewN | apply below_drew1) | exact HB.out)))); have n1_ := Aside0.mk (below_step (by repeat (first | (with_reducible first | exact HB.out | apply below_alloc | apply pw_below_drewN | apply below_drew1) | exact HB.out)) hb); clear HB; have HO105 := n0_; have HB := n1_; clear n0_ n1_; (try clear hb); (try clear hb2); (try clear hk); (try clear hi); (try clear ho0)))
            go_ret2
            exact ⟨_, by first | rfl | (simp [errW_none, errW_some] <;> rfl) | (simp [*, errW_none, errW_some] <;> rfl), by (with_reducible repeat (first | apply Kd.R_alloc | apply Kd.R_drewN | apply Kd.R_drew)); exact HO105.out, by repeat (first | (with_reducible first | exact HB.out | apply below_alloc | apply pw_below_drewN | apply below_drew1) | exact HB.out)⟩

/-! ### loop_Trace: function 20 -/
def loop_Trace.l0 : Nat → Int → List Int → Int → Int → Option (List Int × Int)
  | 0, _, _, _, _ => none
  | k + 1, x1, x6, x13, x14 => if x14 < x13 then (if x6.length < 17592186044416 then (loop_Trace.l0 k x1 (x6 ++ [x14]) x13 (IntKind.u64.wrap (x14 + 1))) else (none)) else ((trace_Loop.f k x6 x1).bind fun bt110 => (some (bt110.1, bt110.2)))
def loop_Trace.f (k : Nat) (a0 : Int) (a1 : Int) : Option (List Int × Int) := (loop_may.f a0 a1).bind fun t106 => (if t106 = true then (loop_Trace.l0 k a1 ([] : List Int) (IntKind.u64.wrap (a0)) 0) else (some (([] : List Int), 1)))
theorem loop_Trace.mono_l : ∀ k, (∀ y0 y1 y2 y3, LeO (loop_Trace.l0 k y0 y1 y2 y3) (loop_Trace.l0 (k + 1) y0 y1 y2 y3))
  | 0 => fun _ _ _ _ r h => by simp [loop_Trace.l0] at h
  | k + 1 => by
    have ih0 := loop_Trace.mono_l k
    · intro y0 y1 y2 y3
      unfold loop_Trace.l0
      repeat' first
      | (with_reducible exact ih0 _ _ _ _)
      | (with_reducible exact trace_Loop.mono _ _ _)
      | (with_reducible exact LeO.refl _)
      | (with_reducible exact LeO.none _)
      | (with_reducible refine LeO.ite ?_ ?_)
      | (with_reducible refine LeO.bind ?_ (fun _ => ?_))
      | exact ih0 _ _ _ _
      | exact trace_Loop.mono _ _ _
      | exact LeO.none _
      | refine LeO.ite ?_ ?_
      | refine LeO.bind ?_ (fun _ => ?_)
theorem loop_Trace.mono : ∀ a0 a1 k, LeO (loop_Trace.f k a0 a1) (loop_Trace.f (k + 1) a0 a1) := by
  intro a0 a1 k
  have ih0 := loop_Trace.mono_l k
  unfold loop_Trace.f
  repeat' first
      | (with_reducible exact ih0 _ _ _ _)
      | (with_reducible exact trace_Loop.mono _ _ _)
      | (with_reducible exact LeO.refl _)
      | (with_reducible exact LeO.none _)
      | (with_reducible refine LeO.ite ?_ ?_)
      | (with_reducible refine LeO.bind ?_ (fun _ => ?_))
      | exact ih0 _ _ _ _
      | exact trace_Loop.mono _ _ _
      | exact LeO.none _
      | refine LeO.ite ?_ ?_
      | refine LeO.bind ?_ (fun _ => ?_)
set_option maxHeartbeats 8000000 in
set_option maxRecDepth 100000 in
theorem loop_Trace.calls (k : Nat) (a0 : Int) (a1 : Int) (r1 : List Int) (r2 : Int) (w : World) (h : loop_Trace.f k a0 a1 = some (r1, r2)) :
    Calls Try.prog 20 #[.int .i64 a0, .int .i64 a1] w fun e w' => ∃ v0_ : Value, e = .returned (.tuple #[v0_, .int .i64 r2]) ∧ Kd.R (Kd.int .u64) 60 w' w.heap.size (fun _ => True) v0_ r1 ∧ Below w.heap.size w w' := by
  have HB := Aside0.mk (Below.refl w.heap.size w)
  have H : ((loop_may.f a0 a1).bind fun t106 => (if t106 = true then (loop_Trace.l0 k a1 ([] : List Int) (IntKind.u64.wrap (a0)) 0) else (some (([] : List Int), 1)))) = some (r1, r2) := h
  clear h
  replace H := Option.bind_eq_some_iff.mp H
  obtain ⟨t106, A30, H⟩ := H
  replace H : (if t106 = true then (loop_Trace.l0 k a1 ([] : List Int) (IntKind.u64.wrap (a0)) 0) else (some (([] : List Int), 1))) = some (r1, r2) := H
  have A3 := Aside0.mk A30
  clear A30
  by_cases c4 : t106 = true
  · subst c4
    have H1 : (loop_Trace.l0 k a1 ([] : List Int) (IntKind.u64.wrap (a0)) 0) = some (r1, r2) := by rw [if_pos rfl] at H; exact H
    clear H
    have H := H1
    clear H1
    have H' := Aside0.mk H
    clear H
    go_enter Try.func20, Try.ntmps20
    go_wp2_with (first | ((with_reducible refine gate_callee (f := 66) rfl ?_); refine goesL_ (some 10) rfl rfl Try.func66 (by kernel_rfl) rfl #[.int .i64 a0, .int .i64 a1] rfl (by (try simp only [List.map_toArray, List.map_cons, List.map_nil]); first | done | rfl | (simp only [List.length_drop, List.length_take]; rfl)) ?_; (with_reducible refine (loop_may.calls a0 a1 true _ A3.out).mono ?_); rintro e w' ⟨rfl, ⟨nd, rfl⟩⟩; refine ⟨_, rfl, ?_⟩))
    go_loopg [6, 14] k (fun kq v6 v14 w' => ∃ (x6_1 : List Int) (x14_1 : Int), v14 = .int .u64 x14_1 ∧ Aside0 (loop_Trace.l0 kq a1 x6_1 (IntKind.u64.wrap (a0)) x14_1 = some (r1, r2)) ∧ Aside0 (kq ≤ k) ∧ Aside0 (Kd.R (Kd.int .u64) 60 w' w.heap.size (fun _ => True) v6 x6_1) ∧ Aside0 (Below w.heap.size w w'))
    case atStart => exact ⟨(([] : List Int)), (0), (by first | rfl | (simp; done) | (simp [*]; done)), H', ⟨Nat.le_refl _⟩, ⟨by first | exact Kd.R_nil _ _ _ _ _ | exact Kd.N_nil _ _ _ _ _ | exact Kd.V_nil _ _ _ _ _ | exact Kd.Q_nil _ _ _ _ _ | exact Kd.S_nil _ _ _ _ _⟩, ⟨by repeat (first | (with_reducible first | exact HB.out | apply below_alloc | apply pw_below_drewN | apply below_drew1) | exact HB.out)⟩⟩
    case round =>
      clear H'
      try clear c2
      try clear p2
      try clear c4
      obtain ⟨x6_1, x14_1, rfl, HA, HK1, HO_6, HB⟩ := hrel
      cases gk with
      | zero => exact absurd HA.out (by simp [loop_Trace.l0])
      | succ k1 =>
        have H := HA.out
        clear HA
        simp only [loop_Trace.l0] at H
        by_cases c5 : x14_1 < (IntKind.u64.wrap (a0))
        · rw [if_pos c5] at H
          have c5b0 : decide (x14_1 < (IntKind.u64.wrap (a0))) = true := decide_eq_true c5
          clear c5
          by_cases c6 : x6_1.length < 17592186044416
          · rw [if_pos c6] at H
            have LMc6 := Aside0.mk c6
            clear c6
            obtain ⟨y107, hy107⟩ : ∃ y_ : List Int, y_ = (x6_1 ++ [x14_1]) := ⟨_, rfl⟩
            replace H : (loop_Trace.l0 k1 a1 y107 (IntKind.u64.wrap (a0)) (IntKind.u64.wrap (x14_1 + 1))) = some (r1, r2) := by first | (rw [hy107]; with_reducible exact H) | (have H2_ := (Option.bind_some _ _).symm.trans H; rw [hy107]; with_reducible exact H2_) | (have H2_ := (Option.bind_some _ _).symm.trans H; with_reducible exact H2_) | with_reducible exact H | (rw [hy107]; exact H) | exact H
            have Ny107 := Aside0.mk hy107
            clear hy107
            have H' := Aside0.mk H
            clear H
            go_wp2_with (first | ((with_reducible refine gate_builtin (b := .append) (xs := #[.tmp 17, .tmp 19]) rfl ?_); at_builtin; refine Kd.R_append (Kd.int .u64) (w0 := w) w.heap.size rfl (.tmp 17) (.tmp 19) 22 60 (.int .u64 0) 8 rfl Try.underlying22 info60 rfl (by decide) (by omega) u6 x6_1 x14_1 [.int .u64 x14_1] (fun _ => True) (fun _ => False) rfl rfl ?aP (fun _ hk => hk.elim) ?aF ?aO ?aB ?aS ?aL ?_; (case aP => exact rfl); (case aB => exact (by repeat (first | (with_reducible first | exact HB.out | apply below_alloc | apply pw_below_drewN | apply below_drew1) | exact HB.out))); (case aF => exact (fun _ _ => trivial)); (case aO => exact (by (with_reducible repeat (first | apply Kd.R_alloc | apply Kd.R_drewN | apply Kd.R_drew)); exact HO_6.out)); (case aS => exact (below_size (by repeat (first | (with_reducible first | exact HB.out | apply below_alloc | apply pw_below_drewN | apply below_drew1) | exact HB.out)))); (case aL => have := LMc6.out; omega); intro v108 w7 ho hb hg hat; rw [← Ny107.out] at ho; have n0_ := Aside0.mk (hb); have n1_ := Aside0.mk (ho); clear HB; clear HO_6; have HB := n0_; have HO109 := n1_; clear n0_ n1_; clear ho hb hg hat))
            go_roundg k1
            case measure => have := HK1.out; omega
            case rel => exact ⟨(y107), (IntKind.u64.wrap (x14_1 + 1)), (by first | rfl | (simp; done) | (simp [*]; done)), H', ⟨by have := HK1.out; omega⟩, ⟨by (with_reducible repeat (first | apply Kd.R_alloc | apply Kd.R_drewN | apply Kd.R_drew)); exact HO109.out⟩, ⟨by repeat (first | (with_reducible first | exact HB.out | apply below_alloc | apply pw_below_drewN | apply below_drew1) | exact HB.out)⟩⟩
          · rw [if_neg c6] at H
            exact absurd H (by simp)
        · rw [if_neg c5] at H
          have c5b0 : decide (x14_1 < (IntKind.u64.wrap (a0))) = false := decide_eq_false c5
          clear c5
          replace H := Option.bind_eq_some_iff.mp H
          obtain ⟨⟨t110, t111⟩, A80, H⟩ := H
          replace H : (some (t110, t111)) = some (r1, r2) := H
          have A8 := Aside0.mk A80
          clear A80
          simp only [Option.some.injEq, Prod.mk.injEq] at H
          obtain ⟨rfl, rfl⟩ := H
          obtain ⟨Ao9, co9, eo9⟩ := Kd.R_slice HO_6.out
          subst eo9
          go_wp2_with (first | ((with_reducible refine gate_callee (f := 67) rfl ?_); refine goesL_ (some 24) rfl rfl Try.func67 (by kernel_rfl) rfl #[.slice Ao9 x6_1.length co9, .int .i64 a1] rfl (by (try simp only [List.map_toArray, List.map_cons, List.map_nil]); first | done | rfl | (simp only [List.length_drop, List.length_take]; rfl)) ?_; (with_reducible refine (trace_Loop.calls k1 _ _ x6_1 a1 t110 t111 _ ?side1 ?side2 A8.out).mono ?_); (case side1 => repeat (first | exact (Kd.R_reads' HO_6.out).2.2 | (with_reducible refine Kd.C_alloc ?_ _) | (with_reducible refine Kd.C_drewN ?_ _) | (with_reducible refine Kd.C_drew ?_))); (case side2 => exact (Kd.R_reads' HO_6.out).2.1); rintro e w10 ⟨v112, rfl, ho0, hb⟩; refine ⟨_, rfl, ?_⟩; have n0_ := Aside0.mk (Kd.R_elder' (by (with_reducible repeat (first | apply Kd.R_alloc | apply Kd.R_drewN | apply Kd.R_drew)); exact HO_6.out) (Kd.R_base ho0) hb); have n1_ := Aside0.mk (Kd.R_lower (Kd.R_new' ho0 (Kd.R_lt (by (with_reducible repeat (first | apply Kd.R_alloc | apply Kd.R_drewN | apply Kd.R_drew)); exact HO_6.out))) (below_size (by repeat (first | (with_reducible first | exact HB.out | apply below_alloc | apply pw_below_drewN | apply below_drew1) | exact HB.out)))); have n2_ := Aside0.mk (below_step (by repeat (first | (with_reducible first | exact HB.out | apply below_alloc | apply pw_below_drewN | apply below_drew1) | exact HB.out)) hb); clear HO_6; clear HB; have HO_6 := n0_; have HO113 := n1_; have HB := n2_; clear n0_ n1_ n2_; (try clear hb); (try clear hb2); (try clear hk); (try clear hi); (try clear ho0)))
          go_ret2
          exact ⟨_, by first | rfl | (simp [errW_none, errW_some] <;> rfl) | (simp [*, errW_none, errW_some] <;> rfl), by (with_reducible repeat (first | apply Kd.R_alloc | apply Kd.R_drewN | apply Kd.R_drew)); exact Kd.R_mono HO113.out (fun _ hk => trivial), by repeat (first | (with_reducible first | exact HB.out | apply below_alloc | apply pw_below_drewN | apply below_drew1) | exact HB.out)⟩
  · replace c4 := Bool.eq_false_iff.mpr c4
    subst c4
    have H1 : (some (([] : List Int), 1)) = some (r1, r2) := by rw [if_neg (show ¬ (false = true) by decide)] at H; exact H
    clear H
    have H := H1
    clear H1
    simp only [Option.some.injEq, Prod.mk.injEq] at H
    obtain ⟨rfl, rfl⟩ := H
    go_enter Try.func20, Try.ntmps20
    go_wp2_with (first | ((with_reducible refine gate_callee (f := 66) rfl ?_); refine goesL_ (some 10) rfl rfl Try.func66 (by kernel_rfl) rfl #[.int .i64 a0, .int .i64 a1] rfl (by (try simp only [List.map_toArray, List.map_cons, List.map_nil]); first | done | rfl | (simp only [List.length_drop, List.length_take]; rfl)) ?_; (with_reducible refine (loop_may.calls a0 a1 false _ A3.out).mono ?_); rintro e w' ⟨rfl, ⟨nd, rfl⟩⟩; refine ⟨_, rfl, ?_⟩))
    go_ret2
    exact ⟨_, by first | rfl | (simp [errW_none, errW_some] <;> rfl) | (simp [*, errW_none, errW_some] <;> rfl), by first | exact Kd.R_nil _ _ _ _ _ | exact Kd.N_nil _ _ _ _ _ | exact Kd.V_nil _ _ _ _ _ | exact Kd.Q_nil _ _ _ _ _ | exact Kd.S_nil _ _ _ _ _, by repeat (first | (with_reducible first | exact HB.out | apply below_alloc | apply pw_below_drewN | apply below_drew1) | exact HB.out)⟩

end Go.Proofs.Ytdjbpdahdakfjaa.PLoop
