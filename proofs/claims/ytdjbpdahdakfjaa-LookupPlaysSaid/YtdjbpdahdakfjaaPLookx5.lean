-- Written by a program of this session (a turned copy of the kit's printer, texts of this session's own for functions that it does not take).
import Derived.Test.YtdjbpdahdakfjaaPLookx0
import Derived.Test.YtdjbpdahdakfjaaPLookx4
namespace Go.Proofs.Ytdjbpdahdakfjaa.PLook
open Go.RowKit Go.Proofs.YtdjbpdahdakfjaaH Go.Proofs.YtdjbpdahdakfjaaW.PrintWords Go.Proofs.YtdjbpdahdakfjaaW.PrintLast Go.Proofs.YtdjbpdahdakfjaaW.PrintMore
attribute [local go_sem] max2_int min2_int max_two min_two max_three min_three max_four min_four   -- for this text's walks alone
set_option linter.unusedVariables false
set_option linter.unusedSimpArgs false


/-! ### slices_heapSortOrdered_uint64: function 129 -/
-- by hand
set_option maxRecDepth 100000 in
set_option maxHeartbeats 8000000 in
theorem slices_heapSortOrdered_uint64.calls {A off cap a b : Nat} {T : TypeId} {C : Array Value} {d : Array Int} {w : World} (hD : Srt.Dat w A off T C d) (hab : a < b) (hb : b ≤ d.size) (hsz : d.size ≤ 1099511627776) :
    Calls Try.prog 129 #[.slice (some ⟨A, off, none⟩) d.size cap, .int .i64 (a : Int), .int .i64 (b : Int)] w fun e w' => e = .returned (.tuple #[]) ∧ Srt.Dat w' A off T C (Go.Sort.heapSort Go.Sort.ltInt d a b) ∧ Srt.Only A w w' := by
  have HD := Aside0.mk hD
  obtain ⟨n, hn⟩ : ∃ n, n = d.size := ⟨_, rfl⟩
  have HN := Aside0.mk hn
  rw [← hn] at hb hsz ⊢
  clear hD hn
  obtain ⟨l, hl⟩ : ∃ l, b = a + l := ⟨b - a, by omega⟩
  have HLL := Aside0.mk hl
  have hl1 : 1 ≤ l := by omega
  have hln : a + l ≤ n := by omega
  have e0 : (b : Int) - (a : Int) = (l : Int) := by omega
  have e1 : wrap64 ((l : Int)) = (l : Int) := by unfold wrap64; omega
  clear hl
  have e2 : wrap64 ((l : Int) - 1) = (l : Int) - 1 := by unfold wrap64; omega
  obtain ⟨q, hq⟩ : ∃ q, q = (l - 1) / 2 + 1 := ⟨_, rfl⟩
  have E3 := Aside0.mk (show ((l : Int) - 1) / 2 = (q : Int) - 1 by omega)
  have e4 : wrap64 ((q : Int) - 1) = (q : Int) - 1 := by unfold wrap64; omega
  have l0 : (0 : Int) ≤ (l : Int) - 1 := by omega
  have hql : q ≤ l := by omega
  have HQ := Aside0.mk hq
  clear hq
  go_enter Try.func129, Try.ntmps129
  go_wp2
  rw [E3.out]
  go_loopg [9] q (fun kq v9 w' => ∃ (dr : Array Int), v9 = .int .i64 ((kq : Int) - 1) ∧ kq ≤ q ∧ Aside0 (dr.size = n) ∧ Aside0 (Srt.Dat w' A off T C dr) ∧ Aside0 (Srt.Only A w w') ∧ Aside0 (Go.Sort.heapBuild Go.Sort.ltInt l a kq dr = Go.Sort.heapBuild Go.Sort.ltInt l a q d))
  case atStart => exact ⟨d, by go_num, Nat.le_refl _, ⟨HN.out.symm⟩, HD, ⟨Mut.refl _ _⟩, ⟨rfl⟩⟩
  case round =>
    obtain ⟨dr, rfl, hk, HS, HDr, HO, HE⟩ := hrel
    cases gk with
    | succ k =>
      rw [show (((k + 1 : Nat) : Int)) - 1 = (k : Int) by omega]
      have b1 : decide ((0 : Int) ≤ (k : Int)) = true := decide_eq_true (by omega)
      have hs := slices_siftDownOrdered_uint64.calls (cap := cap) (lo := k) (hi := l) (F := a) HDr.out (by rw [HS.out]; omega) (by rw [HS.out]; exact hsz) (by omega)
      rw [HS.out] at hs
      have HSI := Aside0.mk hs
      clear hs
      go_wp2_with (go_at_call 144; (with_reducible refine HSI.out.mono ?_); rintro e w2 ⟨rfl, h1, h2⟩; have H1 := Aside0.mk h1; have H2 := Aside0.mk h2; clear h1 h2)
      go_roundg k
      case measure => omega
      case rel => exact ⟨_, by go_num, by omega, ⟨by rw [Srt.sift_size _ _ _ _ _ (Nat.le_refl _), HS.out]⟩, H1, ⟨HO.out.trans H2.out⟩, ⟨by rw [← HE.out]; rfl⟩⟩
    | zero =>
      have HB := Aside0.mk (show dr = Go.Sort.heapBuild Go.Sort.ltInt l a q d from HE.out)
      clear HE hk
      go_wp2
      go_loopg [10] l (fun kq v10 w' => ∃ (dj : Array Int), v10 = .int .i64 ((kq : Int) - 1) ∧ kq ≤ l ∧ Aside0 (dj.size = n) ∧ Aside0 (Srt.Dat w' A off T C dj) ∧ Aside0 (Srt.Only A w w') ∧ Aside0 (Go.Sort.heapPop Go.Sort.ltInt a kq dj = Go.Sort.heapPop Go.Sort.ltInt a l dr))
      case atStart => exact ⟨dr, rfl, Nat.le_refl _, HS, HDr, HO, ⟨rfl⟩⟩
      case round =>
        obtain ⟨dj, rfl, hk, HSj, HDj, HOj, HEj⟩ := hrel
        cases gk with
        | zero =>
          go_wp2
          go_end0
          refine ⟨rfl, ?_, HOj.out⟩
          have : dj = Go.Sort.heapSort Go.Sort.ltInt d a b := by
            unfold Go.Sort.heapSort
            rw [show b - a = l by rw [HLL.out]; omega, ← HQ.out, ← HB.out, ← HEj.out]
            rfl
          rw [← this]
          exact HDj.out
        | succ k =>
          rw [show (((k + 1 : Nat) : Int)) - 1 = (k : Int) by omega]
          have b1 : decide ((0 : Int) ≤ (k : Int)) = true := decide_eq_true (by omega)
          have hX := HDj.out.cell (i := a) (by rw [HSj.out]; omega)
          have hY := HDj.out.cell (i := a + k) (by rw [HSj.out]; omega)
          have hF := fun k => HDj.out.frozen k
          obtain ⟨X, hX0⟩ : ∃ X, X = dj[a]! := ⟨_, rfl⟩
          obtain ⟨Y, hY0⟩ : ∃ Y, Y = dj[a + k]! := ⟨_, rfl⟩
          rw [← hX0] at hX
          rw [← hY0] at hY
          have HX := Aside0.mk hX0
          have HY := Aside0.mk hY0
          clear hX0 hY0
          have e5 : IntKind.i64.wrap ((a : Int) + (k : Int)) = (a : Int) + (k : Int) := by rw [IntKind.wrap_i64]; omega
          have n1 : (a : Int) < (n : Int) := by omega
          have n2 : (a : Int) + (k : Int) < (n : Int) := by omega
          have t1 : ((a : Int) + (k : Int)).toNat = a + k := by omega
          rcases Nat.eq_zero_or_pos k with hk0 | hk0
          · subst hk0
            clear hY
            rw [show ((0 : Nat) : Int) = 0 from rfl]
            go_wp2_with fail
            go_region
            have hsw := (HDj.out.swap (i := a) (j := a) (by rw [HSj.out]; omega) (by rw [HSj.out]; omega)).drew
            have hs := slices_siftDownOrdered_uint64.calls (cap := cap) (lo := 0) (hi := 0) (F := a) hsw (by rw [Srt.swp_size, HSj.out]; omega) (by rw [Srt.swp_size, HSj.out]; exact hsz) (by omega)
            rw [Srt.swp_size, HSj.out] at hs
            rw [← HX.out] at hs
            simp only [Int.natCast_zero] at hs
            have HSI := Aside0.mk hs
            clear hs hsw
            go_wp2_with (go_at_call 144; (with_reducible refine HSI.out.mono ?_); rintro e w2 ⟨rfl, h1, h2⟩; have H1 := Aside0.mk h1; have H2 := Aside0.mk h2; clear h1 h2)
            go_roundg 0
            case measure => omega
            case rel => exact ⟨_, by go_num, by omega, ⟨by rw [Srt.sift_size _ _ _ _ _ (Nat.le_refl _), Srt.swp_size, HSj.out]⟩, H1, ⟨(Srt.only_swap HOj.out _ _ _ _).drew.trans H2.out⟩, ⟨by rw [← HEj.out]; rfl⟩⟩
          · go_wp2_with fail
            go_region
            have hsw := (HDj.out.swap (i := a) (j := a + k) (by rw [HSj.out]; omega) (by rw [HSj.out]; omega)).drew
            have hs := slices_siftDownOrdered_uint64.calls (cap := cap) (lo := 0) (hi := k) (F := a) hsw (by rw [Srt.swp_size, HSj.out]; omega) (by rw [Srt.swp_size, HSj.out]; exact hsz) (by omega)
            rw [Srt.swp_size, HSj.out] at hs
            rw [← HX.out, ← HY.out] at hs
            simp only [Int.natCast_zero] at hs
            have HSI := Aside0.mk hs
            clear hs hsw
            go_wp2_with (go_at_call 144; (with_reducible refine HSI.out.mono ?_); rintro e w2 ⟨rfl, h1, h2⟩; have H1 := Aside0.mk h1; have H2 := Aside0.mk h2; clear h1 h2)
            go_roundg k
            case measure => omega
            case rel => exact ⟨_, by go_num, by omega, ⟨by rw [Srt.sift_size _ _ _ _ _ (Nat.le_refl _), Srt.swp_size, HSj.out]⟩, H1, ⟨(Srt.only_swap HOj.out _ _ _ _).drew.trans H2.out⟩, ⟨by rw [← HEj.out]; rfl⟩⟩


/-! ### bits_Len32: function 137 -/
-- by hand


/-! ### bits_Len64: function 138 -/
-- by hand
theorem ret_i64 {a b : Int} (h : a = b) : Ending.returned (.int .i64 a) = .returned (.int .i64 b) := by rw [h]
set_option maxRecDepth 100000 in
set_option maxHeartbeats 4000000 in
theorem bits_Len64.low {x : Nat} {w : World} (hx : x < 256) : Calls Try.prog 138 #[.int .u64 (x : Int)] w fun e w' => e = .returned (.int .i64 (Go.Sort.bitsLen x : Int)) ∧ w' = w := by
  have b1 : decide ((4294967296 : Int) ≤ (x : Int)) = false := decide_eq_false (by omega)
  have b2 : decide ((65536 : Int) ≤ (x : Int)) = false := decide_eq_false (by omega)
  have b3 : decide ((256 : Int) ≤ (x : Int)) = false := decide_eq_false (by omega)
  have x0 : (0 : Int) ≤ (x : Int) := by omega
  have x1 : (x : Int) < 256 := by omega
  go_enter Try.func138, Try.ntmps138
  go_wp2
  go_ret
  refine ⟨ret_i64 ?_, rfl⟩
  refine (congrArg (fun z => wrap64 (wrap64 z)) (bt_at _ (x : Int) _)).trans ?_
  clear b1 b2 b3 x0 x1
  revert x
  decide +kernel
theorem bitsLen_256 {x : Nat} (h : 256 ≤ x) : Go.Sort.bitsLen x = Go.Sort.bitsLen (x / 256) + 8 := by
  unfold Go.Sort.bitsLen
  rw [if_neg (by omega), if_neg (by omega)]
  have e : ∀ n m : Nat, n ≠ 0 → 2 ^ m ≤ n → n < 2 ^ (m + 1) → n.log2 = m := fun n m hn h1 h2 => by
    have a := (Nat.le_log2 hn).2 h1
    have b := (Nat.log2_lt hn).2 h2
    omega
  have h1 : x / 256 ≠ 0 := by omega
  have l1 := (Nat.le_log2 h1).1 (Nat.le_refl _)
  have l2 := (Nat.log2_lt h1).1 (Nat.lt_succ_self _)
  have := e x ((x / 256).log2 + 8) (by omega) (by rw [Nat.pow_add]; omega) (by rw [show (x / 256).log2 + 8 + 1 = (x / 256).log2 + 1 + 8 by omega, Nat.pow_add]; omega)
  omega
set_option maxRecDepth 100000 in
set_option maxHeartbeats 4000000 in
theorem bits_Len64.high {x : Nat} {w : World} (hx : 256 ≤ x) (hx2 : x < 65536) : Calls Try.prog 138 #[.int .u64 (x : Int)] w fun e w' => e = .returned (.int .i64 (Go.Sort.bitsLen x : Int)) ∧ w' = w := by
  have b1 : decide ((4294967296 : Int) ≤ (x : Int)) = false := decide_eq_false (by omega)
  have b2 : decide ((65536 : Int) ≤ (x : Int)) = false := decide_eq_false (by omega)
  have b3 : decide ((256 : Int) ≤ (x : Int)) = true := decide_eq_true (by omega)
  rw [bitsLen_256 hx]
  obtain ⟨y, hy⟩ : ∃ y, y = x / 256 := ⟨_, rfl⟩
  rw [← hy]
  have x0 : (0 : Int) ≤ (x : Int) := by omega
  have y1 : (y : Int) < 256 := by omega
  have y2 : y < 256 := by omega
  have y0 : (0 : Int) ≤ (y : Int) := by omega
  have e1 : (x : Int) / 256 = (y : Int) := by omega
  clear hy
  go_enter Try.func138, Try.ntmps138
  go_wp2
  go_ret
  refine ⟨ret_i64 ?_, rfl⟩
  refine (congrArg (fun z => wrap64 (8 + wrap64 z)) (bt_at _ (y : Int) _)).trans ?_
  clear b1 b2 b3 x0 y1 y0 e1 hx hx2
  clear x
  revert y
  decide +kernel
theorem bits_Len64.calls {x : Nat} {w : World} (hx : x < 65536) : Calls Try.prog 138 #[.int .u64 (x : Int)] w fun e w' => e = .returned (.int .i64 (Go.Sort.bitsLen x : Int)) ∧ w' = w := by
  rcases Nat.lt_or_ge x 256 with h | h
  · exact bits_Len64.low h
  · exact bits_Len64.high h hx


/-! ### bits_Len: function 113 -/
-- by hand
theorem bits_Len.calls {x : Nat} {w : World} (hx : x < 65536) : Calls Try.prog 113 #[.int .u64 (x : Int)] w fun e w' => e = .returned (.int .i64 (Go.Sort.bitsLen x : Int)) ∧ w' = w := by
  have h := fun W => bits_Len64.calls (w := W) hx
  go_enter Try.func113, Try.ntmps113
  go_wp2_with (go_at_call 138; (with_reducible refine (h _).mono ?_); rintro e w1 ⟨rfl, rfl⟩)
  go_ret
  exact ⟨rfl, rfl⟩


/-! ### slices_nextPowerOfTwo: function 145 -/
-- by hand
theorem shl_u64 {b : Nat} (hb : b ≤ 16) : IntKind.u64.wrap (2 ^ b) = ((2 ^ b : Nat) : Int) := by
  have hp : (2 : Nat) ^ b ≤ 2 ^ 16 := Nat.pow_le_pow_right (by decide) hb
  have hc : (2 : Int) ^ b = ((2 ^ b : Nat) : Int) := by simp
  rw [hc, IntKind.wrap_u64]
  generalize 2 ^ b = q at hp
  omega
theorem bitsLen_16 {x : Nat} (hx : x < 65536) : Go.Sort.bitsLen x ≤ 16 := (Go.Sort.bitsLen_le_iff x 16).2 hx
set_option maxRecDepth 100000 in
set_option maxHeartbeats 4000000 in
theorem slices_nextPowerOfTwo.calls {x : Nat} {w : World} (hx : x < 65536) : Calls Try.prog 145 #[.int .i64 (x : Int)] w fun e w' => e = .returned (.int .u64 ((2 ^ Go.Sort.bitsLen x : Nat) : Int)) ∧ w' = w := by
  have h := fun W => bits_Len.calls (w := W) hx
  have h16 := bitsLen_16 hx
  generalize Go.Sort.bitsLen x = b at h h16 ⊢
  have x0 : (0 : Int) ≤ (x : Int) := by omega
  have x1 : (x : Int) < 65536 := by omega
  have b0 : (0 : Int) ≤ (b : Int) := by omega
  have b1 : (b : Int) ≤ 16 := by omega
  have m1 : min b 64 = b := Nat.min_eq_left (by omega)
  have s1 := shl_u64 h16
  have s2 : IntKind.u64.wrap (1 * 2 ^ b) = ((2 ^ b : Nat) : Int) := by rw [Int.one_mul]; exact s1
  have H := Aside0.mk h
  clear h
  go_enter Try.func145, Try.ntmps145
  go_wp2_with (go_at_call 113; (with_reducible refine (H.out _).mono ?_); rintro e w1 ⟨rfl, rfl⟩)
  go_ret
  exact ⟨by first | rfl | (simp; done), rfl⟩


/-! ### slices_xorshift_Next: function 146 -/
-- by hand
theorem xor_u64 {a b : Nat} (ha : a < 18446744073709551616) (hb : b < 18446744073709551616) : Go.bits .xor .u64 (a : Int) (b : Int) = ((a ^^^ b : Nat) : Int) := by
  have hx : a ^^^ b < 2 ^ 64 := Nat.xor_lt_two_pow (by omega) (by omega)
  show IntKind.u64.wrap ((BitVec.ofInt 64 (a : Int) ^^^ BitVec.ofInt 64 (b : Int)).toNat : Int) = _
  rw [BitVec.toNat_xor, ofInt_u64 a ha, ofInt_u64 b hb, IntKind.wrap_u64]
  omega
theorem box_put {w : World} {R : Nat} {T : TypeId} {x : Value} (h : w.heap[R]? = some (.cells #[x] T (0, 0))) (y : Value) : (w.setCell ⟨R, 0, none⟩ y).drew.heap[R]? = some (.cells #[y] T (0, 0)) := by
  show (w.setCell ⟨R, 0, none⟩ y).heap[R]? = _
  rw [blk_set h]
  rfl
set_option maxRecDepth 100000 in
set_option maxHeartbeats 4000000 in
theorem slices_xorshift_Next.calls {R x : Nat} {w : World} (hB : w.heap[R]? = some (.cells #[.int .u64 (x : Int)] 176 (0, 0))) (hx : x < 18446744073709551616) : Calls Try.prog 146 #[.pointer (some ⟨R, 0, none⟩)] w fun e w' => e = .returned (.int .u64 (Go.Sort.xorNextN x : Int)) ∧ w'.heap[R]? = some (.cells #[.int .u64 (Go.Sort.xorNextN x : Int)] 176 (0, 0)) ∧ Mut (fun k => k = R) w (fun k => k = R) w' := by
  have hc : w.cell? ⟨R, 0, none⟩ = some (.int .u64 (x : Int)) := blk_cell hB 0
  have hf : w.frozen? ⟨R, 0, none⟩ = false := blk_frozen hB 0
  have p64 : (18446744073709551616 : Nat) = 2 ^ 64 := by decide
  obtain ⟨a, ha⟩ : ∃ a, a = x ^^^ (x * 8192 % 18446744073709551616) := ⟨_, rfl⟩
  obtain ⟨b, hb⟩ : ∃ b, b = a ^^^ (a / 128) := ⟨_, rfl⟩
  obtain ⟨c, hc0⟩ : ∃ c, c = b ^^^ (b * 131072 % 18446744073709551616) := ⟨_, rfl⟩
  have hr : Go.Sort.xorNextN x = c := by rw [hc0, hb, ha]; rfl
  rw [hr]
  have ha2 : a < 18446744073709551616 := by rw [ha, p64]; exact Nat.xor_lt_two_pow (by omega) (by omega)
  have hb2 : b < 18446744073709551616 := by rw [hb, p64]; exact Nat.xor_lt_two_pow (by omega) (by omega)
  have e1 : Go.bits .xor .u64 (x : Int) (IntKind.u64.wrap ((x : Int) * 8192)) = (a : Int) := by
    rw [show IntKind.u64.wrap ((x : Int) * 8192) = ((x * 8192 % 18446744073709551616 : Nat) : Int) by rw [IntKind.wrap_u64]; omega, xor_u64 hx (by omega), ← ha]
  have e2 : Go.bits .xor .u64 (a : Int) ((a : Int) / 128) = (b : Int) := by
    rw [show (a : Int) / 128 = ((a / 128 : Nat) : Int) by omega, xor_u64 ha2 (by omega), ← hb]
  have e3 : Go.bits .xor .u64 (b : Int) (IntKind.u64.wrap ((b : Int) * 131072)) = (c : Int) := by
    rw [show IntKind.u64.wrap ((b : Int) * 131072) = ((b * 131072 % 18446744073709551616 : Nat) : Int) by rw [IntKind.wrap_u64]; omega, xor_u64 hb2 (by omega), ← hc0]
  have x0 : (0 : Int) ≤ (x : Int) := by omega
  have x1 : (x : Int) < 18446744073709551616 := by omega
  have a0 : (0 : Int) ≤ (a : Int) := by omega
  have a1 : (a : Int) < 18446744073709551616 := by omega
  have b0 : (0 : Int) ≤ (b : Int) := by omega
  have b1 : (b : Int) < 18446744073709551616 := by omega
  have HB := Aside0.mk hB
  clear hr ha hb hc0 hB p64
  go_enter Try.func146, Try.ntmps146
  go_wp2
  go_region
  have hB1 := box_put HB.out (.int .u64 (a : Int))
  have hM1 := ((Mut.refl (fun k => k = R) w).set (p := ⟨R, 0, none⟩) rfl (.int .u64 (a : Int))).drew
  generalize (w.setCell ⟨R, 0, none⟩ (.int .u64 (a : Int))).drew = W1 at hB1 hM1 ⊢
  have hc1 : W1.cell? ⟨R, 0, none⟩ = some (.int .u64 (a : Int)) := blk_cell hB1 0
  have hf1 : W1.frozen? ⟨R, 0, none⟩ = false := blk_frozen hB1 0
  have HB1 := Aside0.mk hB1
  have HM1 := Aside0.mk hM1
  clear hB1 hM1 hc hf
  go_wp2
  go_region
  have hB2 := box_put HB1.out (.int .u64 (b : Int))
  have hM2 := (HM1.out.set (p := ⟨R, 0, none⟩) rfl (.int .u64 (b : Int))).drew
  generalize (W1.setCell ⟨R, 0, none⟩ (.int .u64 (b : Int))).drew = W2 at hB2 hM2 ⊢
  have hc2 : W2.cell? ⟨R, 0, none⟩ = some (.int .u64 (b : Int)) := blk_cell hB2 0
  have hf2 : W2.frozen? ⟨R, 0, none⟩ = false := blk_frozen hB2 0
  have HB2 := Aside0.mk hB2
  have HM2 := Aside0.mk hM2
  clear hB2 hM2 hc1 hf1
  go_wp2
  go_region
  have hB3 := box_put HB2.out (.int .u64 (c : Int))
  have hM3 := (HM2.out.set (p := ⟨R, 0, none⟩) rfl (.int .u64 (c : Int))).drew
  generalize (W2.setCell ⟨R, 0, none⟩ (.int .u64 (c : Int))).drew = W3 at hB3 hM3 ⊢
  have hc3 : W3.cell? ⟨R, 0, none⟩ = some (.int .u64 (c : Int)) := blk_cell hB3 0
  go_wp2
  go_ret
  exact ⟨rfl, hB3, hM3⟩


/-! ### slices_breakPatternsOrdered_uint64: function 130 -/
-- by hand
theorem box_far {w : World} {R A i j : Nat} {o : Obj} {x y : Value} (h : w.heap[R]? = some o) (hne : R ≠ A) : ((w.setCell ⟨A, i, none⟩ x).setCell ⟨A, j, none⟩ y).drew.heap[R]? = some o :=
  (Below.heap_setCell _ ⟨A, j, none⟩ _ R hne).trans ((Below.heap_setCell _ ⟨A, i, none⟩ _ R hne).trans h)
set_option maxRecDepth 100000 in
set_option maxHeartbeats 8000000 in
theorem slices_breakPatternsOrdered_uint64.calls {A off cap a b : Nat} {T : TypeId} {C : Array Value} {d : Array Int} {w : World} (hD : Srt.Dat w A off T C d) (hab : a + 12 < b) (hb : b ≤ d.size) (hsz : d.size < 65536) :
    Calls Try.prog 130 #[.slice (some ⟨A, off, none⟩) d.size cap, .int .i64 (a : Int), .int .i64 (b : Int)] w fun e w' => e = .returned (.tuple #[]) ∧ Srt.Dat w' A off T C (Go.Sort.breakPatterns d a b) ∧ Srt.Only A w w' := by
  obtain ⟨l, hl⟩ : ∃ l, l = b - a := ⟨_, rfl⟩
  obtain ⟨q, hq⟩ : ∃ q, q = l / 4 := ⟨_, rfl⟩
  obtain ⟨m, hm⟩ : ∃ m, m = 2 ^ Go.Sort.bitsLen l := ⟨_, rfl⟩
  have HFIN := Aside0.mk (show Go.Sort.breakPatterns d a b = Srt.brk a l m 3 (a + q * 2 - 1) (UInt64.ofNat l, d) by rw [hm, hq]; exact Srt.brk_eq hl.symm (by omega))
  have hm1 : 1 ≤ m := by rw [hm]; exact Nat.one_le_two_pow
  have hm2 : m ≤ 2 * l := by rw [hm]; exact Go.Sort.two_pow_bitsLen_le (by omega)
  have hp := fun W => slices_nextPowerOfTwo.calls (x := l) (w := W) (by omega)
  simp only [← hm] at hp
  have HP := Aside0.mk hp
  have hA := blk_lt hD.blk
  have HA := Aside0.mk hA
  have HD0 := Aside0.mk (hD.below (w' := w.alloc (.cells #[.int .u64 (l : Int)] 176)) ((Below.refl _ _).alloc (Nat.le_refl _) _))
  have HR0 := Aside0.mk (blk_new w (.cells #[.int .u64 (l : Int)] 176))
  have HM0 := Aside0.mk ((Mut.refl (fun k => k = A ∨ w.heap.size ≤ k) w).alloc (.cells #[.int .u64 (l : Int)] 176))
  obtain ⟨n, hn⟩ : ∃ n, n = d.size := ⟨_, rfl⟩
  have HN := Aside0.mk hn
  rw [← hn] at hb hsz ⊢
  have e0 : (b : Int) - (a : Int) = (l : Int) := by omega
  have E1 := Aside0.mk (show (l : Int) / 4 = (q : Int) by omega)
  have l0 : (8 : Int) ≤ (l : Int) := by omega
  have l1 : (l : Int) < 65536 := by omega
  have q0 : (2 : Int) ≤ (q : Int) := by omega
  have q1 : (q : Int) ≤ 65536 := by omega
  have hql : 4 * q ≤ l := by omega
  have hq2 : 2 ≤ q := by omega
  have a1 : (a : Int) ≤ 65536 := by omega
  have hal : a + l ≤ n := by omega
  clear hp hD hA hm hq hl hn
  go_enter Try.func130, Try.ntmps130
  go_wp2_with (go_at_call 145; (with_reducible refine (HP.out _).mono ?_); rintro e w1 ⟨rfl, rfl⟩)
  rw [E1.out]
  go_loopg [9] 3 (fun kq v9 w' => ∃ (i r : Nat) (dk : Array Int) (rr : UInt64), v9 = .int .i64 (i : Int) ∧ kq ≤ 3 ∧ i + kq = a + q * 2 + 2 ∧ Aside0 (r = rr.toNat) ∧ Aside0 (dk.size = n) ∧ Aside0 (Srt.Dat w' A off T C dk) ∧ Aside0 (w'.heap[w.heap.size]? = some (.cells #[.int .u64 (r : Int)] 176 (0, 0))) ∧ Aside0 (Mut (fun k => k = A ∨ w.heap.size ≤ k) w (fun k => k = A ∨ w.heap.size ≤ k) w') ∧ Aside0 (Srt.brk a l m kq i (rr, dk) = Srt.brk a l m 3 (a + q * 2 - 1) (UInt64.ofNat l, d)))
  case atStart =>
    refine ⟨a + q * 2 - 1, l, d, UInt64.ofNat l, by congr 1; omega, by omega, by omega, ⟨?_⟩, ⟨HN.out.symm⟩, HD0, HR0, HM0, ⟨rfl⟩⟩
    rw [UInt64.toNat_ofNat']
    exact (Nat.mod_eq_of_lt (by omega)).symm
  case round =>
    obtain ⟨i, r, dk, rr, rfl, hk3, hik, HRR, HS, HDk, HBX, HMU, HE⟩ := hrel
    have e1 := E1.out
    cases gk with
    | zero =>
      have bi : decide ((i : Int) ≤ (a : Int) + (q : Int) * 2 + 1) = false := decide_eq_false (by omega)
      clear hik hk3 hql hq2 hal hab hm1 hm2
      go_wp2
      go_end0
      exact ⟨rfl, by rw [HFIN.out, ← HE.out]; exact HDk.out, Srt.only_of HMU.out⟩
    | succ k =>
      have bi : decide ((i : Int) ≤ (a : Int) + (q : Int) * 2 + 1) = true := decide_eq_true (by omega)
      have HIK := Aside0.mk (show k ≤ 3 ∧ i + 1 + k = a + q * 2 + 2 by omega)
      have hx64 : r < 18446744073709551616 := by rw [HRR.out]; exact rr.toNat_lt
      have hnx := slices_xorshift_Next.calls HBX.out hx64
      obtain ⟨r2, hr2⟩ : ∃ r2, r2 = Go.Sort.xorNextN r := ⟨_, rfl⟩
      have HR2 := Aside0.mk (show r2 = (Go.Sort.xorNext rr).toNat by rw [hr2, HRR.out, Go.Sort.xorNext_toNat])
      have hr264 : r2 < 18446744073709551616 := by rw [HR2.out]; exact (Go.Sort.xorNext rr).toNat_lt
      simp only [← hr2] at hnx
      have HNX := Aside0.mk hnx
      obtain ⟨o, ho⟩ : ∃ o, o = r2 &&& (m - 1) := ⟨_, rfl⟩
      have hom : o ≤ m - 1 := by rw [ho]; exact Nat.and_le_right
      have eand : Go.bits .and .u64 (r2 : Int) ((m : Int) - 1) = (o : Int) := by
        rw [show (m : Int) - 1 = ((m - 1 : Nat) : Int) by omega, u64_and_nat r2 (m - 1) hr264 (by omega), ← ho]
      have HOO := Aside0.mk ho
      have hm3 : (m : Int) ≤ 131072 := by omega
      have hm4 : (1 : Int) ≤ (m : Int) := by omega
      have o0 : (0 : Int) ≤ (o : Int) := by omega
      have o1 : (o : Int) ≤ 131072 := by omega
      have i1 : (i : Int) ≤ 262144 := by omega
      have HX64 := Aside0.mk hx64
      have HR264 := Aside0.mk hr264
      have HB1 := Aside0.mk (show i < n ∧ (o < l → a + o < n) ∧ (l ≤ o → o - l < l ∧ a + (o - l) < n) by omega)
      clear hnx hr2 ho hik hk3 hx64 hr264 hql hq2 hal hab hm1 hm2 hom
      by_cases hol : l ≤ o
      · have bo : decide ((l : Int) ≤ (o : Int)) = true := decide_eq_true (by omega)
        obtain ⟨oo, hoo⟩ : ∃ oo, oo = o - l := ⟨_, rfl⟩
        have eoo : (o : Int) - (l : Int) = (oo : Int) := by omega
        have HOB := Aside0.mk (show a + oo < n by have := HB1.out.2.2 hol; omega)
        have HOO2 := Aside0.mk hoo
        clear hoo
        go_wp2_with (go_at_call 146; (with_reducible refine HNX.out.mono ?_); rintro e w2 ⟨rfl, g2, g3⟩; have G2 := Aside0.mk g2; have HD2 := Aside0.mk (HDk.out.mut (F := fun k => k = w.heap.size) g3 (Nat.ne_of_lt HA.out)); have HM2 := Aside0.mk (HMU.out.trans (Srt.widen (F := fun k => k = A ∨ w.heap.size ≤ k) (G := fun k => k = w.heap.size) g3 (fun k hk => Or.inr (Nat.le_of_eq (Eq.symm hk))))); clear g2 g3)
        have hX := HD2.out.cell (i := i) (by rw [HS.out]; exact HB1.out.1)
        have hY := HD2.out.cell (i := a + oo) (by rw [HS.out]; exact HOB.out)
        have hF := fun k => HD2.out.frozen k
        obtain ⟨X, eX⟩ : ∃ z_, z_ = dk[i]! := ⟨_, rfl⟩
        obtain ⟨Y, eY⟩ : ∃ z_, z_ = dk[a + oo]! := ⟨_, rfl⟩
        rw [← eX] at hX
        rw [← eY] at hY
        have EX := Aside0.mk eX
        have EY := Aside0.mk eY
        clear eX eY
        have n1 : (i : Int) < (n : Int) := by have := HB1.out.1; omega
        have n2 : (a : Int) + (oo : Int) < (n : Int) := by have := HOB.out; omega
        have oo0 : (0 : Int) ≤ (oo : Int) := by omega
        have t1 : ((a : Int) + (oo : Int)).toNat = a + oo := by omega
        have hsw := (HD2.out.swap (i := i) (j := a + oo) (by rw [HS.out]; exact HB1.out.1) (by rw [HS.out]; exact HOB.out)).drew
        rw [← EX.out, ← EY.out] at hsw
        have HSW := Aside0.mk hsw
        have HBR := Aside0.mk (Srt.brk_step (a := a) (l := l) (m := m) (idx := i) (o := oo) (r := rr) (d := dk) (by rw [← HR2.out, ← HOO.out, if_pos hol, ← HOO2.out]))
        clear hsw
        by_cases hsm : i = a + oo
        · have HSM := Aside0.mk hsm
          have t2 : off + (a + oo) = off + i := by omega
          have t3 : (a : Int) + (oo : Int) = (i : Int) := by omega
          obtain rfl : X = Y := by rw [EX.out, EY.out, ← hsm]
          rw [t2] at HSW
          clear hY t1 n2 hsm t2
          go_region
          go_wp2
          go_roundg k
          case measure => omega
          case rel => exact ⟨i + 1, r2, Go.Sort.swp dk i (a + oo), Go.Sort.xorNext rr, by go_num, HIK.out.1, HIK.out.2, HR2, ⟨by rw [Srt.swp_size, HS.out]⟩, HSW, ⟨(box_far G2.out (by have := HA.out; omega))⟩, ⟨((HM2.out.set (p := ⟨A, off + i, none⟩) (.inl rfl) _).set (p := ⟨A, off + i, none⟩) (.inl rfl) _).drew⟩, ⟨by rw [← HE.out, ← HBR.out]; rfl⟩⟩
        · have hne : off + i ≠ off + (a + oo) := by omega
          go_region
          go_wp2
          go_roundg k
          case measure => omega
          case rel => exact ⟨i + 1, r2, Go.Sort.swp dk i (a + oo), Go.Sort.xorNext rr, by go_num, HIK.out.1, HIK.out.2, HR2, ⟨by rw [Srt.swp_size, HS.out]⟩, HSW, ⟨(box_far G2.out (by have := HA.out; omega))⟩, ⟨((HM2.out.set (p := ⟨A, off + i, none⟩) (.inl rfl) _).set (p := ⟨A, off + (a + oo), none⟩) (.inl rfl) _).drew⟩, ⟨by rw [← HE.out, ← HBR.out]; rfl⟩⟩
      · have bo : decide ((l : Int) ≤ (o : Int)) = false := decide_eq_false (by omega)
        obtain ⟨oo, hoo⟩ : ∃ oo, oo = o := ⟨_, rfl⟩
        have HOB := Aside0.mk (show a + oo < n by have := HB1.out.2.1 (by omega); omega)
        have HIF := Aside0.mk (show (if r2 &&& (m - 1) ≥ l then (r2 &&& (m - 1)) - l else r2 &&& (m - 1)) = oo by rw [← HOO.out, if_neg hol, hoo])
        subst hoo
        go_wp2_with (go_at_call 146; (with_reducible refine HNX.out.mono ?_); rintro e w2 ⟨rfl, g2, g3⟩; have G2 := Aside0.mk g2; have HD2 := Aside0.mk (HDk.out.mut (F := fun k => k = w.heap.size) g3 (Nat.ne_of_lt HA.out)); have HM2 := Aside0.mk (HMU.out.trans (Srt.widen (F := fun k => k = A ∨ w.heap.size ≤ k) (G := fun k => k = w.heap.size) g3 (fun k hk => Or.inr (Nat.le_of_eq (Eq.symm hk))))); clear g2 g3)
        have hX := HD2.out.cell (i := i) (by rw [HS.out]; exact HB1.out.1)
        have hY := HD2.out.cell (i := a + oo) (by rw [HS.out]; exact HOB.out)
        have hF := fun k => HD2.out.frozen k
        obtain ⟨X, eX⟩ : ∃ z_, z_ = dk[i]! := ⟨_, rfl⟩
        obtain ⟨Y, eY⟩ : ∃ z_, z_ = dk[a + oo]! := ⟨_, rfl⟩
        rw [← eX] at hX
        rw [← eY] at hY
        have EX := Aside0.mk eX
        have EY := Aside0.mk eY
        clear eX eY
        have n1 : (i : Int) < (n : Int) := by have := HB1.out.1; omega
        have n2 : (a : Int) + (oo : Int) < (n : Int) := by have := HOB.out; omega
        have oo0 : (0 : Int) ≤ (oo : Int) := by omega
        have t1 : ((a : Int) + (oo : Int)).toNat = a + oo := by omega
        have hsw := (HD2.out.swap (i := i) (j := a + oo) (by rw [HS.out]; exact HB1.out.1) (by rw [HS.out]; exact HOB.out)).drew
        rw [← EX.out, ← EY.out] at hsw
        have HSW := Aside0.mk hsw
        have HBR := Aside0.mk (Srt.brk_step (a := a) (l := l) (m := m) (idx := i) (o := oo) (r := rr) (d := dk) (by rw [← HR2.out]; exact HIF.out))
        clear hsw
        by_cases hsm : i = a + oo
        · have HSM := Aside0.mk hsm
          have t2 : off + (a + oo) = off + i := by omega
          have t3 : (a : Int) + (oo : Int) = (i : Int) := by omega
          obtain rfl : X = Y := by rw [EX.out, EY.out, ← hsm]
          rw [t2] at HSW
          clear hY t1 n2 hsm t2
          go_region
          go_wp2
          go_roundg k
          case measure => omega
          case rel => exact ⟨i + 1, r2, Go.Sort.swp dk i (a + oo), Go.Sort.xorNext rr, by go_num, HIK.out.1, HIK.out.2, HR2, ⟨by rw [Srt.swp_size, HS.out]⟩, HSW, ⟨(box_far G2.out (by have := HA.out; omega))⟩, ⟨((HM2.out.set (p := ⟨A, off + i, none⟩) (.inl rfl) _).set (p := ⟨A, off + i, none⟩) (.inl rfl) _).drew⟩, ⟨by rw [← HE.out, ← HBR.out]; rfl⟩⟩
        · have hne : off + i ≠ off + (a + oo) := by omega
          go_region
          go_wp2
          go_roundg k
          case measure => omega
          case rel => exact ⟨i + 1, r2, Go.Sort.swp dk i (a + oo), Go.Sort.xorNext rr, by go_num, HIK.out.1, HIK.out.2, HR2, ⟨by rw [Srt.swp_size, HS.out]⟩, HSW, ⟨(box_far G2.out (by have := HA.out; omega))⟩, ⟨((HM2.out.set (p := ⟨A, off + i, none⟩) (.inl rfl) _).set (p := ⟨A, off + (a + oo), none⟩) (.inl rfl) _).drew⟩, ⟨by rw [← HE.out, ← HBR.out]; rfl⟩⟩


/-! ### slices_order2Ordered_uint64: function 150 -/
-- by hand
set_option maxRecDepth 100000 in
set_option maxHeartbeats 4000000 in
theorem slices_order2Ordered_uint64.calls {A off cap a b s S : Nat} {T : TypeId} {C : Array Value} {d : Array Int} {w : World} (hD : Srt.Dat w A off T C d) (hB : Srt.Box w S (s : Int)) (hSA : A ≠ S) (ha : a < d.size) (hb : b < d.size) (hsz : d.size ≤ 1099511627776) (hs : s ≤ 1000) :
    Calls Try.prog 150 #[.slice (some ⟨A, off, none⟩) d.size cap, .int .i64 (a : Int), .int .i64 (b : Int), .pointer (some ⟨S, 0, none⟩)] w fun e w' => e = .returned (.tuple #[.int .i64 ((Go.Sort.order2 Go.Sort.ltInt d a b s).1 : Int), .int .i64 ((Go.Sort.order2 Go.Sort.ltInt d a b s).2.1 : Int)]) ∧ Srt.Dat w' A off T C d ∧ Srt.Box w' S ((Go.Sort.order2 Go.Sort.ltInt d a b s).2.2 : Int) ∧ Mut (fun k => k = S) w (fun k => k = S) w' := by
  have HD := Aside0.mk hD
  have HB := Aside0.mk hB
  have HSA := Aside0.mk hSA
  have hX := hD.cell hb
  have hY := hD.cell ha
  have hXn := fun nd => (hD.drewN nd).cell hb
  have hYn := fun nd => (hD.drewN nd).cell ha
  have hc := fun nd => (hB.drewN nd).cell
  have hf := fun nd => (hB.drewN nd).frozen
  obtain ⟨X, eX⟩ : ∃ z_, z_ = d[b]! := ⟨_, rfl⟩
  obtain ⟨Y, eY⟩ : ∃ z_, z_ = d[a]! := ⟨_, rfl⟩
  simp only [← eX] at hX hXn
  simp only [← eY] at hY hYn
  have EX := Aside0.mk eX
  have EY := Aside0.mk eY
  clear eX eY hD hB hSA
  generalize d.size = n at ha hb hsz
  have a1 : (a : Int) < (n : Int) := by omega
  have b1 : (b : Int) < (n : Int) := by omega
  have hs1 : (s : Int) ≤ 1000 := by omega
  have hs0 : (0 : Int) ≤ (s : Int) := by omega
  cases hl : Go.Sort.ltInt X Y with
  | true =>
    have hr : Go.Sort.order2 Go.Sort.ltInt d a b s = (b, a, s + 1) := by unfold Go.Sort.order2; rw [← EX.out, ← EY.out, hl]; rfl
    have HR := Aside0.mk hr
    have hL := fun W => cmp_Less_uint64.calls X Y W
    simp only [hl] at hL
    have HL := Aside0.mk hL
    clear hr hL
    go_enter Try.func150, Try.ntmps150
    go_wp2
    go_quiet ((go_at_call 134; exact Calls.quiet_of_same (HL.out _)))
    go_wp2
    go_ret2
    rw [HR.out]
    exact ⟨rfl, (HD.out.drewN _).mut ((Mut.refl (fun k => k = S) _).set (p := ⟨S, 0, none⟩) rfl _) HSA.out, (HB.out.drewN _).set _, ((Mut.refl (fun k => k = S) _).drewN _).set (p := ⟨S, 0, none⟩) rfl _⟩
  | false =>
    have hr : Go.Sort.order2 Go.Sort.ltInt d a b s = (a, b, s) := by unfold Go.Sort.order2; rw [← EX.out, ← EY.out, hl]; rfl
    have HR := Aside0.mk hr
    have hL := fun W => cmp_Less_uint64.calls X Y W
    simp only [hl] at hL
    have HL := Aside0.mk hL
    clear hr hL
    go_enter Try.func150, Try.ntmps150
    go_wp2
    go_quiet ((go_at_call 134; exact Calls.quiet_of_same (HL.out _)))
    go_wp2
    go_ret2
    rw [HR.out]
    exact ⟨rfl, HD.out.drewN _, HB.out.drewN _, (Mut.refl (fun k => k = S) _).drewN _⟩


/-! ### slices_medianOrdered_uint64: function 148 -/
-- by hand
set_option maxRecDepth 100000 in
set_option maxHeartbeats 4000000 in
theorem slices_medianOrdered_uint64.calls {A off cap a b c s S : Nat} {T : TypeId} {C : Array Value} {d : Array Int} {w : World} (hD : Srt.Dat w A off T C d) (hB : Srt.Box w S (s : Int)) (hSA : A ≠ S) (ha : a < d.size) (hb : b < d.size) (hc : c < d.size) (hsz : d.size ≤ 1099511627776) (hs : s ≤ 100) :
    Calls Try.prog 148 #[.slice (some ⟨A, off, none⟩) d.size cap, .int .i64 (a : Int), .int .i64 (b : Int), .int .i64 (c : Int), .pointer (some ⟨S, 0, none⟩)] w fun e w' => e = .returned (.int .i64 ((Go.Sort.median Go.Sort.ltInt d a b c s).1 : Int)) ∧ Srt.Dat w' A off T C d ∧ Srt.Box w' S ((Go.Sort.median Go.Sort.ltInt d a b c s).2 : Int) ∧ Mut (fun k => k = S) w (fun k => k = S) w' := by
  have h1 := slices_order2Ordered_uint64.calls (cap := cap) hD hB hSA ha hb hsz (by omega)
  have i1 := Srt.order2_in d (s := s) ha hb
  have l1 := Srt.order2_le d a b s
  have hm : Go.Sort.median Go.Sort.ltInt d a b c s = ((Go.Sort.order2 Go.Sort.ltInt d (Go.Sort.order2 Go.Sort.ltInt d a b s).1 (Go.Sort.order2 Go.Sort.ltInt d (Go.Sort.order2 Go.Sort.ltInt d a b s).2.1 c (Go.Sort.order2 Go.Sort.ltInt d a b s).2.2).1 (Go.Sort.order2 Go.Sort.ltInt d (Go.Sort.order2 Go.Sort.ltInt d a b s).2.1 c (Go.Sort.order2 Go.Sort.ltInt d a b s).2.2).2.2).2.1, (Go.Sort.order2 Go.Sort.ltInt d (Go.Sort.order2 Go.Sort.ltInt d a b s).1 (Go.Sort.order2 Go.Sort.ltInt d (Go.Sort.order2 Go.Sort.ltInt d a b s).2.1 c (Go.Sort.order2 Go.Sort.ltInt d a b s).2.2).1 (Go.Sort.order2 Go.Sort.ltInt d (Go.Sort.order2 Go.Sort.ltInt d a b s).2.1 c (Go.Sort.order2 Go.Sort.ltInt d a b s).2.2).2.2).2.2) := rfl
  rw [hm]
  generalize Go.Sort.order2 Go.Sort.ltInt d a b s = r1 at h1 i1 l1 ⊢
  obtain ⟨a1, b1, s1⟩ := r1
  simp only at h1 i1 l1 ⊢
  have i2 := Srt.order2_in d (s := s1) i1.2 hc
  have l2 := Srt.order2_le d b1 c s1
  have h2 : ∀ W : World, Srt.Dat W A off T C d → Srt.Box W S (s1 : Int) → _ := fun W hW hWB => slices_order2Ordered_uint64.calls (cap := cap) hW hWB hSA i1.2 hc hsz (by omega)
  generalize Go.Sort.order2 Go.Sort.ltInt d b1 c s1 = r2 at h2 i2 l2 ⊢
  obtain ⟨b2, c2, s2⟩ := r2
  simp only at h2 i2 l2 ⊢
  have h3 : ∀ W : World, Srt.Dat W A off T C d → Srt.Box W S (s2 : Int) → _ := fun W hW hWB => slices_order2Ordered_uint64.calls (cap := cap) hW hWB hSA i1.1 i2.1 hsz (by omega)
  generalize Go.Sort.order2 Go.Sort.ltInt d a1 b2 s2 = r3 at h3 ⊢
  obtain ⟨a3, b3, s3⟩ := r3
  simp only at h3 ⊢
  have H1 := Aside0.mk h1
  have H2 := Aside0.mk h2
  have H3 := Aside0.mk h3
  clear h1 h2 h3 hm i1 i2 l1 l2 hD hB hSA
  go_enter Try.func148, Try.ntmps148
  go_wp2_with (first
    | (go_at_call 150; (with_reducible refine H1.out.mono ?_); rintro e w1 ⟨rfl, q1, q2, q3⟩; have Q1 := Aside0.mk q1; have Q2 := Aside0.mk q2; have Q3 := Aside0.mk q3; clear q1 q2 q3)
    | (go_at_call 150; (with_reducible refine (H2.out _ Q1.out Q2.out).mono ?_); rintro e w2 ⟨rfl, q1, q2, q3⟩; have R1 := Aside0.mk q1; have R2 := Aside0.mk q2; have R3 := Aside0.mk q3; clear q1 q2 q3)
    | (go_at_call 150; (with_reducible refine (H3.out _ R1.out R2.out).mono ?_); rintro e w3 ⟨rfl, q1, q2, q3⟩; have U1 := Aside0.mk q1; have U2 := Aside0.mk q2; have U3 := Aside0.mk q3; clear q1 q2 q3))
  go_ret
  exact ⟨rfl, U1.out, U2.out, Q3.out.trans (R3.out.trans U3.out)⟩


/-! ### slices_medianAdjacentOrdered_uint64: function 147 -/
-- by hand
set_option maxRecDepth 100000 in
set_option maxHeartbeats 4000000 in
theorem slices_medianAdjacentOrdered_uint64.calls {A off cap a s S : Nat} {T : TypeId} {C : Array Value} {d : Array Int} {w : World} (hD : Srt.Dat w A off T C d) (hB : Srt.Box w S (s : Int)) (hSA : A ≠ S) (ha1 : 1 ≤ a) (ha : a + 1 < d.size) (hsz : d.size ≤ 1099511627776) (hs : s ≤ 100) :
    Calls Try.prog 147 #[.slice (some ⟨A, off, none⟩) d.size cap, .int .i64 (a : Int), .pointer (some ⟨S, 0, none⟩)] w fun e w' => e = .returned (.int .i64 ((Go.Sort.medianAdjacent Go.Sort.ltInt d a s).1 : Int)) ∧ Srt.Dat w' A off T C d ∧ Srt.Box w' S ((Go.Sort.medianAdjacent Go.Sort.ltInt d a s).2 : Int) ∧ Mut (fun k => k = S) w (fun k => k = S) w' := by
  have h1 := slices_medianOrdered_uint64.calls (cap := cap) (a := a - 1) (b := a) (c := a + 1) hD hB hSA (by omega) (by omega) ha hsz hs
  rw [show ((a - 1 : Nat) : Int) = (a : Int) - 1 by omega, show ((a + 1 : Nat) : Int) = (a : Int) + 1 by omega] at h1
  have H1 := Aside0.mk h1
  generalize d.size = n at ha hsz H1 ⊢
  have a0 : (1 : Int) ≤ (a : Int) := by omega
  have a1 : (a : Int) ≤ 1099511627776 := by omega
  clear h1 hD hB hSA
  go_enter Try.func147, Try.ntmps147
  go_wp2_with (go_at_call 148; (with_reducible refine H1.out.mono ?_); rintro e w1 ⟨rfl, q1, q2, q3⟩)
  go_ret
  exact ⟨rfl, q1, q2, q3⟩


/-! ### slices_choosePivotOrdered_uint64: function 131 -/
-- by hand
/-- What stands behind the pivot's choice. -/
def ChoosePost (A off : Nat) (T : TypeId) (C : Array Value) (d : Array Int) (a b : Nat) (w : World) (e : Ending) (w' : World) : Prop := e = .returned (.tuple #[.int .i64 ((Go.Sort.choosePivot Go.Sort.ltInt d a b).1 : Int), .int .i64 (Srt.hintNo (Go.Sort.choosePivot Go.Sort.ltInt d a b).2)]) ∧ Srt.Dat w' A off T C d ∧ Srt.Only A w w'
set_option maxRecDepth 100000 in
set_option maxHeartbeats 8000000 in
theorem slices_choosePivotOrdered_uint64.small {A off cap a b : Nat} {T : TypeId} {C : Array Value} {d : Array Int} {w : World} (hD : Srt.Dat w A off T C d) (hab : a + 12 < b) (h50 : b - a < 50) (hb : b ≤ d.size) (hsz : d.size ≤ 1099511627776) :
    Calls Try.prog 131 #[.slice (some ⟨A, off, none⟩) d.size cap, .int .i64 (a : Int), .int .i64 (b : Int)] w (ChoosePost A off T C d a b w) := by
  obtain ⟨l, hl⟩ : ∃ l, l = b - a := ⟨_, rfl⟩
  obtain ⟨q, hq⟩ : ∃ q, q = l / 4 := ⟨_, rfl⟩
  obtain ⟨r, hr⟩ : ∃ r, r = Go.Sort.median Go.Sort.ltInt d (a + q) (a + q * 2) (a + q * 3) 0 := ⟨_, rfl⟩
  have hA := blk_lt hD.blk
  have h1 : ∀ W : World, Srt.Dat W A off T C d → Srt.Box W w.heap.size ((0 : Nat) : Int) → _ := fun W hW hB => slices_medianOrdered_uint64.calls (cap := cap) (a := a + q) (b := a + q * 2) (c := a + q * 3) hW hB (show A ≠ w.heap.size by omega) (by omega) (by omega) (by omega) hsz (by decide)
  have HCH := Aside0.mk (Srt.choose_small (d := d) (a := a) (b := b) (j := r.1) (s := r.2) (by omega) h50 (by omega) hr.symm)
  simp only [← hr] at h1
  rw [show ((a + q : Nat) : Int) = (a : Int) + (q : Int) by omega, show ((a + q * 2 : Nat) : Int) = (a : Int) + (q : Int) * 2 by omega, show ((a + q * 3 : Nat) : Int) = (a : Int) + (q : Int) * 3 by omega] at h1
  have H1 := Aside0.mk h1
  have HD0 := Aside0.mk (hD.below (w' := w.alloc (.cells #[.int .i64 0] 3)) ((Below.refl _ _).alloc (Nat.le_refl _) _))
  have HB0 := Aside0.mk (show Srt.Box (w.alloc (.cells #[.int .i64 0] 3)) w.heap.size ((0 : Nat) : Int) from ⟨blk_new w _⟩)
  generalize d.size = n at hb hsz H1 ⊢
  have e0 : (b : Int) - (a : Int) = (l : Int) := by omega
  have e1 : (l : Int) / 4 = (q : Int) := by omega
  have l0 : (8 : Int) ≤ (l : Int) := by omega
  have l1 : (l : Int) < 50 := by omega
  have bl : decide ((50 : Int) ≤ (l : Int)) = false := decide_eq_false (by omega)
  have q0 : (0 : Int) ≤ (q : Int) := by omega
  have q1 : (q : Int) ≤ 50 := by omega
  have a1 : (a : Int) ≤ 1099511627776 := by omega
  obtain ⟨j, s⟩ := r
  simp only at H1 HCH
  clear h1 hr hl hq hD hA
  rcases (show s = 0 ∨ s = 12 ∨ (s ≠ 0 ∧ s ≠ 12) by omega) with hs | hs | ⟨hs1, hs2⟩
  · subst hs
    go_enter Try.func131, Try.ntmps131
    go_wp2_with (go_at_call 148; (with_reducible refine (H1.out _ HD0.out HB0.out).mono ?_); rintro e w1 ⟨rfl, q1, q2, q3⟩; have hcS : w1.cell? ⟨w.heap.size, 0, none⟩ = some (.int .i64 0) := q2.cell; have QD := Aside0.mk q1; have QM := Aside0.mk q3; clear q1 q2 q3)
    go_ret2
    unfold ChoosePost
    rw [HCH.out]
    simp only [Srt.hintNo]
    exact ⟨rfl, QD.out, Mut.of_below _ (((Below.refl _ _).alloc (Nat.le_refl _) _).trans (QM.out.below (fun k hk => by rw [hk]; exact Nat.le_refl _) (by simp)))⟩
  · subst hs
    go_enter Try.func131, Try.ntmps131
    go_wp2_with (go_at_call 148; (with_reducible refine (H1.out _ HD0.out HB0.out).mono ?_); rintro e w1 ⟨rfl, q1, q2, q3⟩; have hcS : w1.cell? ⟨w.heap.size, 0, none⟩ = some (.int .i64 12) := q2.cell; have QD := Aside0.mk q1; have QM := Aside0.mk q3; clear q1 q2 q3)
    go_ret2
    unfold ChoosePost
    rw [HCH.out]
    exact ⟨rfl, QD.out, Mut.of_below _ (((Below.refl _ _).alloc (Nat.le_refl _) _).trans (QM.out.below (fun k hk => by rw [hk]; exact Nat.le_refl _) (by simp)))⟩
  · have z1 : ((s : Int) == 0) = false := beq_eq_false_iff_ne.2 (by omega)
    have z2 : ((s : Int) == 12) = false := beq_eq_false_iff_ne.2 (by omega)
    go_enter Try.func131, Try.ntmps131
    go_wp2_with (go_at_call 148; (with_reducible refine (H1.out _ HD0.out HB0.out).mono ?_); rintro e w1 ⟨rfl, q1, q2, q3⟩; have hcS : w1.cell? ⟨w.heap.size, 0, none⟩ = some (.int .i64 (s : Int)) := q2.cell; have QD := Aside0.mk q1; have QM := Aside0.mk q3; clear q1 q2 q3)
    go_ret2
    unfold ChoosePost
    rw [HCH.out]
    rw [if_neg hs1, if_neg hs2]
    exact ⟨rfl, QD.out, Mut.of_below _ (((Below.refl _ _).alloc (Nat.le_refl _) _).trans (QM.out.below (fun k hk => by rw [hk]; exact Nat.le_refl _) (by simp)))⟩
set_option maxRecDepth 100000 in
set_option maxHeartbeats 8000000 in
theorem slices_choosePivotOrdered_uint64.great {A off cap a b : Nat} {T : TypeId} {C : Array Value} {d : Array Int} {w : World} (hD : Srt.Dat w A off T C d) (hab : a + 12 < b) (h50 : 50 ≤ b - a) (hb : b ≤ d.size) (hsz : d.size ≤ 1099511627776) :
    Calls Try.prog 131 #[.slice (some ⟨A, off, none⟩) d.size cap, .int .i64 (a : Int), .int .i64 (b : Int)] w (ChoosePost A off T C d a b w) := by
  obtain ⟨l, hl⟩ : ∃ l, l = b - a := ⟨_, rfl⟩
  obtain ⟨q, hq⟩ : ∃ q, q = l / 4 := ⟨_, rfl⟩
  obtain ⟨r1, hr1⟩ : ∃ r, r = Go.Sort.medianAdjacent Go.Sort.ltInt d (a + q) 0 := ⟨_, rfl⟩
  obtain ⟨r2, hr2⟩ : ∃ r, r = Go.Sort.medianAdjacent Go.Sort.ltInt d (a + q * 2) r1.2 := ⟨_, rfl⟩
  obtain ⟨r3, hr3⟩ : ∃ r, r = Go.Sort.medianAdjacent Go.Sort.ltInt d (a + q * 3) r2.2 := ⟨_, rfl⟩
  obtain ⟨r4, hr4⟩ : ∃ r, r = Go.Sort.median Go.Sort.ltInt d r1.1 r2.1 r3.1 r3.2 := ⟨_, rfl⟩
  have m1 : r1.2 ≤ 3 ∧ r1.1 < d.size := by rw [hr1]; exact ⟨Srt.median_le d _ _ _ _, Srt.median_in d (by omega) (by omega) (by omega)⟩
  have m2 : r2.2 ≤ 6 ∧ r2.1 < d.size := by rw [hr2]; exact ⟨Nat.le_trans (Srt.median_le d _ _ _ _) (by omega), Srt.median_in d (by omega) (by omega) (by omega)⟩
  have m3 : r3.2 ≤ 9 ∧ r3.1 < d.size := by rw [hr3]; exact ⟨Nat.le_trans (Srt.median_le d _ _ _ _) (by omega), Srt.median_in d (by omega) (by omega) (by omega)⟩
  have hA := blk_lt hD.blk
  have h1 : ∀ W : World, Srt.Dat W A off T C d → Srt.Box W w.heap.size ((0 : Nat) : Int) → _ := fun W hW hB => slices_medianAdjacentOrdered_uint64.calls (cap := cap) (a := a + q) hW hB (show A ≠ w.heap.size by omega) (by omega) (by omega) hsz (by decide)
  have h2 : ∀ W : World, Srt.Dat W A off T C d → Srt.Box W w.heap.size (r1.2 : Int) → _ := fun W hW hB => slices_medianAdjacentOrdered_uint64.calls (cap := cap) (a := a + q * 2) hW hB (show A ≠ w.heap.size by omega) (by omega) (by omega) hsz (by omega)
  have h3 : ∀ W : World, Srt.Dat W A off T C d → Srt.Box W w.heap.size (r2.2 : Int) → _ := fun W hW hB => slices_medianAdjacentOrdered_uint64.calls (cap := cap) (a := a + q * 3) hW hB (show A ≠ w.heap.size by omega) (by omega) (by omega) hsz (by omega)
  have h4 : ∀ W : World, Srt.Dat W A off T C d → Srt.Box W w.heap.size (r3.2 : Int) → _ := fun W hW hB => slices_medianOrdered_uint64.calls (cap := cap) (a := r1.1) (b := r2.1) (c := r3.1) hW hB (show A ≠ w.heap.size by omega) m1.2 m2.2 m3.2 hsz (by omega)
  have HCH := Aside0.mk (Srt.choose_great (d := d) (a := a) (b := b) (i := r1.1) (s1 := r1.2) (j := r2.1) (s2 := r2.2) (k := r3.1) (s3 := r3.2) (j2 := r4.1) (s4 := r4.2) h50 (by omega) hr1.symm hr2.symm hr3.symm hr4.symm)
  simp only [← hr1] at h1
  simp only [← hr2] at h2
  simp only [← hr3] at h3
  simp only [← hr4] at h4
  rw [show ((a + q : Nat) : Int) = (a : Int) + (q : Int) by omega] at h1
  rw [show ((a + q * 2 : Nat) : Int) = (a : Int) + (q : Int) * 2 by omega] at h2
  rw [show ((a + q * 3 : Nat) : Int) = (a : Int) + (q : Int) * 3 by omega] at h3
  have H1 := Aside0.mk h1
  have H2 := Aside0.mk h2
  have H3 := Aside0.mk h3
  have H4 := Aside0.mk h4
  have HD0 := Aside0.mk (hD.below (w' := w.alloc (.cells #[.int .i64 0] 3)) ((Below.refl _ _).alloc (Nat.le_refl _) _))
  have HB0 := Aside0.mk (show Srt.Box (w.alloc (.cells #[.int .i64 0] 3)) w.heap.size ((0 : Nat) : Int) from ⟨blk_new w _⟩)
  generalize d.size = n at hb hsz H1 H2 H3 H4 ⊢
  have e0 : (b : Int) - (a : Int) = (l : Int) := by omega
  have e1 : (l : Int) / 4 = (q : Int) := by omega
  have l0 : (8 : Int) ≤ (l : Int) := by omega
  have l1 : (l : Int) ≤ 1099511627776 := by omega
  have bl : decide ((50 : Int) ≤ (l : Int)) = true := decide_eq_true (by omega)
  have q0 : (0 : Int) ≤ (q : Int) := by omega
  have q1 : (q : Int) ≤ 1099511627776 := by omega
  have a1 : (a : Int) ≤ 1099511627776 := by omega
  obtain ⟨i1, s1⟩ := r1
  obtain ⟨j1, s2⟩ := r2
  obtain ⟨k1, s3⟩ := r3
  obtain ⟨j, s⟩ := r4
  simp only at H1 H2 H3 H4 HCH
  clear h1 h2 h3 h4 hr1 hr2 hr3 hr4 hl hq hD hA m1 m2 m3
  rcases (show s = 0 ∨ s = 12 ∨ (s ≠ 0 ∧ s ≠ 12) by omega) with hs | hs | ⟨hs1, hs2⟩
  · subst hs
    go_enter Try.func131, Try.ntmps131
    go_wp2_with (first | (go_at_call 147; (with_reducible refine (H1.out _ HD0.out HB0.out).mono ?_); rintro e w1 ⟨rfl, q1, q2, q3⟩; have QD1 := Aside0.mk q1; have QB1 := Aside0.mk q2; have QM1 := Aside0.mk q3; clear q1 q2 q3) | (go_at_call 147; (with_reducible refine (H2.out _ QD1.out QB1.out).mono ?_); rintro e w2 ⟨rfl, q1, q2, q3⟩; have QD2 := Aside0.mk q1; have QB2 := Aside0.mk q2; have QM2 := Aside0.mk q3; clear q1 q2 q3) | (go_at_call 147; (with_reducible refine (H3.out _ QD2.out QB2.out).mono ?_); rintro e w3 ⟨rfl, q1, q2, q3⟩; have QD3 := Aside0.mk q1; have QB3 := Aside0.mk q2; have QM3 := Aside0.mk q3; clear q1 q2 q3) | (go_at_call 148; (with_reducible refine (H4.out _ QD3.out QB3.out).mono ?_); rintro e w4 ⟨rfl, q1, q2, q3⟩; have hcS : w4.cell? ⟨w.heap.size, 0, none⟩ = some (.int .i64 0) := q2.cell; have QD := Aside0.mk q1; have QM := Aside0.mk (QM1.out.trans (QM2.out.trans (QM3.out.trans q3))); clear q1 q2 q3))
    go_ret2
    unfold ChoosePost
    rw [HCH.out]
    simp only [Srt.hintNo]
    exact ⟨rfl, QD.out, Mut.of_below _ (((Below.refl _ _).alloc (Nat.le_refl _) _).trans (QM.out.below (fun k hk => by rw [hk]; exact Nat.le_refl _) (by simp)))⟩
  · subst hs
    go_enter Try.func131, Try.ntmps131
    go_wp2_with (first | (go_at_call 147; (with_reducible refine (H1.out _ HD0.out HB0.out).mono ?_); rintro e w1 ⟨rfl, q1, q2, q3⟩; have QD1 := Aside0.mk q1; have QB1 := Aside0.mk q2; have QM1 := Aside0.mk q3; clear q1 q2 q3) | (go_at_call 147; (with_reducible refine (H2.out _ QD1.out QB1.out).mono ?_); rintro e w2 ⟨rfl, q1, q2, q3⟩; have QD2 := Aside0.mk q1; have QB2 := Aside0.mk q2; have QM2 := Aside0.mk q3; clear q1 q2 q3) | (go_at_call 147; (with_reducible refine (H3.out _ QD2.out QB2.out).mono ?_); rintro e w3 ⟨rfl, q1, q2, q3⟩; have QD3 := Aside0.mk q1; have QB3 := Aside0.mk q2; have QM3 := Aside0.mk q3; clear q1 q2 q3) | (go_at_call 148; (with_reducible refine (H4.out _ QD3.out QB3.out).mono ?_); rintro e w4 ⟨rfl, q1, q2, q3⟩; have hcS : w4.cell? ⟨w.heap.size, 0, none⟩ = some (.int .i64 12) := q2.cell; have QD := Aside0.mk q1; have QM := Aside0.mk (QM1.out.trans (QM2.out.trans (QM3.out.trans q3))); clear q1 q2 q3))
    go_ret2
    unfold ChoosePost
    rw [HCH.out]
    exact ⟨rfl, QD.out, Mut.of_below _ (((Below.refl _ _).alloc (Nat.le_refl _) _).trans (QM.out.below (fun k hk => by rw [hk]; exact Nat.le_refl _) (by simp)))⟩
  · have z1 : ((s : Int) == 0) = false := beq_eq_false_iff_ne.2 (by omega)
    have z2 : ((s : Int) == 12) = false := beq_eq_false_iff_ne.2 (by omega)
    go_enter Try.func131, Try.ntmps131
    go_wp2_with (first | (go_at_call 147; (with_reducible refine (H1.out _ HD0.out HB0.out).mono ?_); rintro e w1 ⟨rfl, q1, q2, q3⟩; have QD1 := Aside0.mk q1; have QB1 := Aside0.mk q2; have QM1 := Aside0.mk q3; clear q1 q2 q3) | (go_at_call 147; (with_reducible refine (H2.out _ QD1.out QB1.out).mono ?_); rintro e w2 ⟨rfl, q1, q2, q3⟩; have QD2 := Aside0.mk q1; have QB2 := Aside0.mk q2; have QM2 := Aside0.mk q3; clear q1 q2 q3) | (go_at_call 147; (with_reducible refine (H3.out _ QD2.out QB2.out).mono ?_); rintro e w3 ⟨rfl, q1, q2, q3⟩; have QD3 := Aside0.mk q1; have QB3 := Aside0.mk q2; have QM3 := Aside0.mk q3; clear q1 q2 q3) | (go_at_call 148; (with_reducible refine (H4.out _ QD3.out QB3.out).mono ?_); rintro e w4 ⟨rfl, q1, q2, q3⟩; have hcS : w4.cell? ⟨w.heap.size, 0, none⟩ = some (.int .i64 (s : Int)) := q2.cell; have QD := Aside0.mk q1; have QM := Aside0.mk (QM1.out.trans (QM2.out.trans (QM3.out.trans q3))); clear q1 q2 q3))
    go_ret2
    unfold ChoosePost
    rw [HCH.out]
    rw [if_neg hs1, if_neg hs2]
    exact ⟨rfl, QD.out, Mut.of_below _ (((Below.refl _ _).alloc (Nat.le_refl _) _).trans (QM.out.below (fun k hk => by rw [hk]; exact Nat.le_refl _) (by simp)))⟩
theorem slices_choosePivotOrdered_uint64.calls {A off cap a b : Nat} {T : TypeId} {C : Array Value} {d : Array Int} {w : World} (hD : Srt.Dat w A off T C d) (hab : a + 12 < b) (hb : b ≤ d.size) (hsz : d.size ≤ 1099511627776) :
    Calls Try.prog 131 #[.slice (some ⟨A, off, none⟩) d.size cap, .int .i64 (a : Int), .int .i64 (b : Int)] w (ChoosePost A off T C d a b w) := by
  by_cases h50 : b - a < 50
  · exact slices_choosePivotOrdered_uint64.small hD hab h50 hb hsz
  · exact slices_choosePivotOrdered_uint64.great hD hab (by omega) hb hsz


/-! ### slices_reverseRangeOrdered_uint64: function 132 -/
-- by hand
set_option maxRecDepth 100000 in
set_option maxHeartbeats 4000000 in
theorem slices_reverseRangeOrdered_uint64.calls {A off cap a b : Nat} {T : TypeId} {C : Array Value} {d : Array Int} {w : World} (hD : Srt.Dat w A off T C d) (hab : a < b) (hb : b ≤ d.size) (hsz : d.size ≤ 1099511627776) :
    Calls Try.prog 132 #[.slice (some ⟨A, off, none⟩) d.size cap, .int .i64 (a : Int), .int .i64 (b : Int)] w fun e w' => e = .returned (.tuple #[]) ∧ Srt.Dat w' A off T C (Go.Sort.reverseRange d a b) ∧ Srt.Only A w w' := by
  have HD := Aside0.mk hD
  obtain ⟨n, hn⟩ : ∃ n, n = d.size := ⟨_, rfl⟩
  have HN := Aside0.mk hn
  rw [← hn] at hb hsz ⊢
  clear hD hn
  have e1 : wrap64 ((b : Int) - 1) = (b : Int) - 1 := by unfold wrap64; omega
  go_enter Try.func132, Try.ntmps132
  go_wp2
  go_loopg [6, 7] (b - a) (fun kq v6 v7 w' => ∃ (i j : Nat) (di : Array Int), v6 = .int .i64 (i : Int) ∧ v7 = .int .i64 (j : Int) ∧ a ≤ i ∧ j < b ∧ j + 1 ≤ i + kq ∧ i ≤ b ∧ Aside0 (di.size = n) ∧ Aside0 (Srt.Dat w' A off T C di) ∧ Aside0 (Srt.Only A w w') ∧ Aside0 (Go.Sort.reverseLoop i j di = Go.Sort.reverseLoop a (b - 1) d))
  case atStart => exact ⟨a, b - 1, d, rfl, by congr 1; omega, by omega, by omega, by omega, by omega, ⟨HN.out.symm⟩, HD, ⟨Mut.refl _ _⟩, ⟨rfl⟩⟩
  case round =>
    obtain ⟨i, j, di, rfl, rfl, hai, hjb, hk, hib, HS, HDi, HO, HE⟩ := hrel
    by_cases hlt : i < j
    · obtain ⟨k1, rfl⟩ : ∃ k1, gk = k1 + 1 := ⟨gk - 1, by omega⟩
      have hX := HDi.out.cell (i := i) (by rw [HS.out]; omega)
      have hY := HDi.out.cell (i := j) (by rw [HS.out]; omega)
      have hF := fun k => HDi.out.frozen k
      obtain ⟨X, hX0⟩ : ∃ X, X = di[i]! := ⟨_, rfl⟩
      obtain ⟨Y, hY0⟩ : ∃ Y, Y = di[j]! := ⟨_, rfl⟩
      rw [← hX0] at hX
      rw [← hY0] at hY
      have HX := Aside0.mk hX0
      have HY := Aside0.mk hY0
      clear hX0 hY0
      have n1 : (i : Int) < (n : Int) := by omega
      have n2 : (j : Int) < (n : Int) := by omega
      go_wp2
      go_region
      have hsw := (HDi.out.swap (i := i) (j := j) (by rw [HS.out]; omega) (by rw [HS.out]; omega)).drew
      rw [← HX.out, ← HY.out] at hsw
      have HSW := Aside0.mk hsw
      clear hsw
      go_wp2
      go_roundg k1
      case measure => omega
      case rel => exact ⟨i + 1, j - 1, Go.Sort.swp di i j, by go_num, by congr 1; omega, by omega, by omega, by omega, by omega, ⟨by rw [Srt.swp_size, HS.out]⟩, HSW, ⟨(Srt.only_swap HO.out _ _ _ _).drew⟩, ⟨by rw [← HE.out, Srt.rev_go hlt]⟩⟩
    · go_wp2
      go_end0
      exact ⟨rfl, by unfold Go.Sort.reverseRange; rw [← HE.out, Srt.rev_end (by omega)]; exact HDi.out, HO.out⟩

end Go.Proofs.Ytdjbpdahdakfjaa.PLook
