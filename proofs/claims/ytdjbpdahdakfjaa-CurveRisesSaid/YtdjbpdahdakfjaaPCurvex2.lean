-- Written by a program of this session (a turned copy of the kit's printer, texts of this session's own for functions that it does not take).
import Derived.Test.YtdjbpdahdakfjaaPCurvex0
import Derived.Test.YtdjbpdahdakfjaaPCurvex1
namespace Go.Proofs.Ytdjbpdahdakfjaa.PCurve
open Go.RowKit Go.Proofs.YtdjbpdahdakfjaaH Go.Proofs.YtdjbpdahdakfjaaW.PrintWords Go.Proofs.YtdjbpdahdakfjaaW.PrintLast Go.Proofs.YtdjbpdahdakfjaaW.PrintMore
attribute [local go_sem] max2_int min2_int max_two min_two max_three min_three max_four min_four   -- for this text's walks alone
set_option linter.unusedVariables false
set_option linter.unusedSimpArgs false


/-! ### marks_Set_Rank: function 124 -/
-- by hand
theorem and127 (i : Nat) (h : i < 9223372036854775808) : Go.bits .and .i64 (i : Int) 127 = ((i % 128 : Nat) : Int) := by
  have := bits_mask .i64 63 (by decide) (fun n h0 h1 => by rw [IntKind.wrap_i64]; omega) 7 (by decide) (i : Int) (by omega) (by simpa using (by omega : (i : Int) < 9223372036854775808))
  simpa using this
theorem ones_f (x : Nat) (hx : x < 18446744073709551616) : bits_OnesCount64.f (x : Int) = some (Mk.pop x : Int) := by
  obtain ⟨y1, y2, y3, e1, l1, e2, l2, e3, l3, e⟩ := Mk.pop_code x hx
  have q1 : IntKind.u64.wrap (Go.bits .and .u64 ((x : Int) / 2) 6148914691236517205 + Go.bits .and .u64 (x : Int) 6148914691236517205) = (y1 : Int) := by
    have h1 := u64_and_nat (x / 2) 6148914691236517205 (by omega) (by decide)
    have h2 := u64_and_nat x 6148914691236517205 hx (by decide)
    rw [show ((x : Int) / 2) = ((x / 2 : Nat) : Int) by omega, show (6148914691236517205 : Int) = ((6148914691236517205 : Nat) : Int) from rfl, h1, h2, ← Int.natCast_add, ← e1, IntKind.wrap_u64]
    omega
  have q2 : IntKind.u64.wrap (Go.bits .and .u64 ((y1 : Int) / 4) 3689348814741910323 + Go.bits .and .u64 (y1 : Int) 3689348814741910323) = (y2 : Int) := by
    have h1 := u64_and_nat (y1 / 4) 3689348814741910323 (by omega) (by decide)
    have h2 := u64_and_nat y1 3689348814741910323 l1 (by decide)
    rw [show ((y1 : Int) / 4) = ((y1 / 4 : Nat) : Int) by omega, show (3689348814741910323 : Int) = ((3689348814741910323 : Nat) : Int) from rfl, h1, h2, ← Int.natCast_add, ← e2, IntKind.wrap_u64]
    omega
  have q3 : Go.bits .and .u64 (IntKind.u64.wrap ((y2 : Int) / 16 + (y2 : Int))) 1085102592571150095 = (y3 : Int) := by
    have h1 := u64_and_nat (y2 / 16 + y2) 1085102592571150095 (by omega) (by decide)
    have h2 : IntKind.u64.wrap ((y2 : Int) / 16 + (y2 : Int)) = ((y2 / 16 + y2 : Nat) : Int) := by rw [IntKind.wrap_u64]; omega
    rw [h2, show (1085102592571150095 : Int) = ((1085102592571150095 : Nat) : Int) from rfl, h1, ← e3]
  unfold bits_OnesCount64.f
  rw [q1, q2, q3]
  clear q1 q2 q3 e1 e2 e3 l1 l2 hx
  obtain ⟨y4, e4⟩ : ∃ y, y = y3 + y3 / 256 := ⟨_, rfl⟩
  rw [← e4] at e
  have q4 : IntKind.u64.wrap ((y3 : Int) + (y3 : Int) / 256) = (y4 : Int) := by rw [IntKind.wrap_u64]; omega
  have l4 : y4 ≤ 1090000000000000000 := by omega
  rw [q4]
  clear q4 e4 l3
  obtain ⟨y5, e5⟩ : ∃ y, y = y4 + y4 / 65536 := ⟨_, rfl⟩
  rw [← e5] at e
  have q5 : IntKind.u64.wrap ((y4 : Int) + (y4 : Int) / 65536) = (y5 : Int) := by rw [IntKind.wrap_u64]; omega
  have l5 : y5 ≤ 1091000000000000000 := by omega
  rw [q5]
  clear q5 e5 l4
  obtain ⟨y6, e6⟩ : ∃ y, y = y5 + y5 / 4294967296 := ⟨_, rfl⟩
  rw [← e6] at e
  have q6 : wrap64 (IntKind.u64.wrap ((y5 : Int) + (y5 : Int) / 4294967296)) = (y6 : Int) := by rw [IntKind.wrap_u64]; unfold wrap64; omega
  rw [q6, and127 y6 (by omega), e]
/-- The ones below a place, word by word. -/
theorem cnt_word (p : Nat → Bool) (k : Nat) : Mk.cnt p (64 * (k + 1)) 0 = Mk.cnt p (64 * k) 0 + Mk.pop (Mk.wd p 64 (64 * k)) := by
  rw [show 64 * (k + 1) = 64 * k + 64 by omega, Mk.cnt_add, Mk.pop_wd, Nat.zero_add]
theorem cnt_rest (p : Nat → Bool) (i : Nat) : Mk.cnt p i 0 = Mk.cnt p (64 * (i / 64)) 0 + Mk.pop (Mk.wd p (i % 64) (64 * (i / 64))) := by
  rw [Mk.pop_low _ _ _ (by omega)]
  have := Mk.cnt_add p (64 * (i / 64)) (i % 64) 0
  rw [show 64 * (i / 64) + i % 64 = i by omega, Nat.zero_add] at this
  exact this
theorem pop_none (p : Nat → Bool) (o : Nat) : Mk.pop (Mk.wd p 0 o) = 0 := by
  have h : Mk.wd p 0 o = 0 := by rw [Mk.wd]
  rw [h]
  decide +kernel
theorem low_bits (p : Nat → Bool) (i : Nat) : Go.bits .and .u64 (Mk.wd p 64 (64 * (i / 64)) : Int) (IntKind.u64.wrap (IntKind.u64.wrap (2 ^ (i % 64)) - 1)) = ((Mk.wd p (i % 64) (64 * (i / 64)) : Nat) : Int) := by
  have hlt := Mk.wd_lt p 64 (64 * (i / 64))
  have h : (2 : Nat) ^ (i % 64) < 2 ^ 64 := Nat.pow_lt_pow_right (by decide) (Nat.mod_lt _ (by decide))
  have h0 : 0 < (2 : Nat) ^ (i % 64) := Nat.two_pow_pos _
  rw [Mk.shl1 _ (Nat.mod_lt _ (by decide)), show IntKind.u64.wrap (((2 ^ (i % 64) : Nat) : Int) - 1) = ((2 ^ (i % 64) - 1 : Nat) : Int) by rw [IntKind.wrap_u64]; omega, u64_and_nat _ _ hlt (by omega), Mk.wd_low _ _ _ (by omega)]
set_option maxRecDepth 100000 in
set_option maxHeartbeats 4000000 in
theorem marks_Set_Rank.calls {g A n : Nat} {p : Nat → Bool} {w : World} (hS : Mk.SetAt 60 175 w g A n p) (hn : n ≤ 65536) {i : Nat} (hi : i ≤ n) :
    Calls Try.prog 124 #[.pointer (some ⟨g, 0, none⟩), .int .i64 (i : Int)] w fun e w' => e = .returned (.int .i64 (Mk.cnt p i 0 : Int)) ∧ Drawn0 w w' := by
  have HS := Aside0.mk hS
  have HI := Aside0.mk hi
  have HN := Aside0.mk hn
  have i0 : (0 : Int) ≤ (i : Int) := by omega
  have i1 : (i : Int) ≤ (n : Int) := by omega
  have m1 : (if (n : Int) < (i : Int) then (n : Int) else (i : Int)) = (i : Int) := if_neg (by omega)
  have m2 : (if 0 < i then (i : Int) else 0) = (i : Int) := by split <;> omega
  have m3 : (if (0 : Int) < (i : Int) then (i : Int) else 0) = (i : Int) := by split <;> omega
  have hq : (i : Int) / 64 = ((i / 64 : Nat) : Int) := by omega
  have e1 := Mk.and63 i (by omega)
  have e2 : IntKind.u64.wrap ((i % 64 : Nat) : Int) = ((i % 64 : Nat) : Int) := by rw [IntKind.wrap_u64]; omega
  have e2' : IntKind.u64.wrap ((i : Int) % 64) = (i : Int) % 64 := by rw [IntKind.wrap_u64]; omega
  have e4 : min (i % 64) 64 = i % 64 := Nat.min_eq_left (by omega)
  have HCW := Aside0.mk (fun k => cnt_word p k)
  have HCR := Aside0.mk (cnt_rest p i)
  have HLB := Aside0.mk (low_bits p i)
  obtain ⟨q, hqd⟩ : ∃ q, q = i / 64 := ⟨_, rfl⟩
  have HQ := Aside0.mk hqd
  rw [← hqd] at hq
  clear hS hqd
  go_enter Try.func124, Try.ntmps124
  go_wp2_with (first
    | (go_at_call 141; refine (marks_Set_Width.calls HS.out).mono ?_; rintro e w' ⟨rfl, rfl⟩))
  go_loopw [5, 6] (fun v5 v6 wr => ∃ k : Nat, v6 = .int .i64 k ∧ k ≤ q ∧ v5 = .int .i64 (Mk.cnt p (64 * k) 0 : Int) ∧ ∃ nd, wr = w'.drewN nd) (fun _ v6 _ => q - (intOf v6).toNat)
  case atStart => exact ⟨0, rfl, Nat.zero_le _, rfl, 0, rfl⟩
  case round =>
    obtain ⟨k, rfl, hk, rfl, nd, rfl⟩ := hrel
    have HS1 := Aside0.mk (HS.out.drewN nd)
    by_cases hlt : k < q
    · have p1 : (0 : Int) ≤ (k : Int) := by omega
      have hkm : k < (n + 63) / 64 := by have := HQ.out; have := HI.out; omega
      have q1 : (k : Int) < (((n + 63) / 64 : Nat) : Int) := by omega
      have b1 : decide ((k : Int) < (q : Int)) = true := decide_eq_true (by omega)
      have hc1 := HS1.out.c1
      have hw := HS1.out.word hkm
      have hwl := Mk.wd_lt p 64 (64 * k)
      have hcw := HCW.out k
      have hcl := Mk.cnt_le p (64 * (k + 1)) 0
      have HON := Aside0.mk (ones_f _ hwl)
      have ad : IntKind.i64.wrap ((Mk.cnt p (64 * k) 0 : Int) + (Mk.pop (Mk.wd p 64 (64 * k)) : Int)) = (Mk.cnt p (64 * (k + 1)) 0 : Int) := by rw [IntKind.wrap_i64]; omega
      have ad2 : wrap64 ((Mk.cnt p (64 * k) 0 : Int) + (Mk.pop (Mk.wd p 64 (64 * k)) : Int)) = (Mk.cnt p (64 * (k + 1)) 0 : Int) := by unfold wrap64; omega
      clear hwl hcw hcl
      go_wp2_with (first
        | (go_at_call 142; refine (bits_OnesCount64.calls _ _ _ HON.out).mono ?_; rintro e w2 ⟨rfl, ⟨nd2, rfl⟩⟩))
      go_roundw
      case rel => exact ⟨k + 1, by go_num, by omega, rfl, _, rfl⟩
      case measure => simp [intOf]; omega
    · have hkq : k = q := by omega
      subst hkq
      have b1 : decide ((k : Int) < (k : Int)) = false := decide_eq_false (by omega)
      have hc1 := HS1.out.c1
      have hcr := HCR.out
      have hlb := HLB.out
      rw [← HQ.out] at hcr hlb
      obtain ⟨r, hr⟩ : ∃ r, r = i % 64 := ⟨_, rfl⟩
      rw [← hr] at hcr hlb e1 e2 e4
      have hri : (i : Int) % 64 = (r : Int) := by omega
      have hr64 : r < 64 := by omega
      by_cases hz : r = 0
      · subst hz
        have hres : Mk.cnt p i 0 = Mk.cnt p (64 * k) 0 := by rw [hcr, pop_none, Nat.add_zero]
        have HRES := Aside0.mk hres
        have b2 : decide ((0 : Int) < (0 : Int)) = false := by decide
        clear hcr hlb hr hres
        go_wp2
        go_ret
        exact ⟨congrArg (fun z : Nat => Ending.returned (.int .i64 (z : Int))) HRES.out.symm, ⟨_, rfl⟩⟩
      · have hkm : k < (n + 63) / 64 := by have := HQ.out; have := HI.out; omega
        have hw := HS1.out.word hkm
        have p1 : (0 : Int) ≤ (k : Int) := by omega
        have q1 : (k : Int) < (((n + 63) / 64 : Nat) : Int) := by omega
        have b2 : decide ((0 : Int) < (r : Int)) = true := decide_eq_true (by omega)
        have b3 : 0 < r := by omega
        have hwl : Mk.wd p r (64 * k) < 18446744073709551616 := Nat.lt_of_lt_of_le (Mk.wd_lt p r (64 * k)) (Nat.pow_le_pow_right (show 0 < 2 by decide) (show r ≤ 64 by omega))
        have HON := Aside0.mk (ones_f _ hwl)
        have hcl := Mk.cnt_le p i 0
        have ad : IntKind.i64.wrap ((Mk.cnt p (64 * k) 0 : Int) + (Mk.pop (Mk.wd p r (64 * k)) : Int)) = (Mk.cnt p i 0 : Int) := by rw [IntKind.wrap_i64]; omega
        have ad2 : wrap64 ((Mk.cnt p (64 * k) 0 : Int) + (Mk.pop (Mk.wd p r (64 * k)) : Int)) = (Mk.cnt p i 0 : Int) := by unfold wrap64; omega
        clear hcr hr hwl hcl
        go_wp2_with (first
          | (go_at_call 142; refine (bits_OnesCount64.calls _ _ _ HON.out).mono ?_; rintro e w2 ⟨rfl, ⟨nd2, rfl⟩⟩))
        go_ret
        exact ⟨rfl, ⟨_, rfl⟩⟩


/-! ### marks_Set_Has: function 143 -/
-- by hand
theorem has_bit (p : Nat → Bool) (i : Nat) : (Go.bits .and .u64 ((Mk.wd p 64 (64 * (i / 64)) : Int) / 2 ^ (i % 64)) 1 == 1) = p i := by
  have hlt := Mk.wd_lt p 64 (64 * (i / 64))
  have hhas := Mk.wd_has p i
  have hc : (2 : Int) ^ (i % 64) = ((2 ^ (i % 64) : Nat) : Int) := by simp
  have hd : Mk.wd p 64 (64 * (i / 64)) / 2 ^ (i % 64) ≤ Mk.wd p 64 (64 * (i / 64)) := Nat.div_le_self _ _
  rw [hc, ← Int.natCast_ediv]
  generalize Mk.wd p 64 (64 * (i / 64)) / 2 ^ (i % 64) = z at hhas hd ⊢
  rw [odd_bit (Int.natCast_nonneg z) (by omega)]
  cases hp : p i
  · rw [hp] at hhas
    have : z % 2 = 0 := by simpa using hhas
    refine beq_eq_false_iff_ne.2 ?_
    omega
  · rw [hp] at hhas
    have : z % 2 = 1 := by simpa using hhas
    refine beq_iff_eq.2 ?_
    omega
set_option maxRecDepth 100000 in
set_option maxHeartbeats 4000000 in
theorem marks_Set_Has.calls {g A n : Nat} {p : Nat → Bool} {w : World} (hS : Mk.SetAt 60 175 w g A n p) (hn : n ≤ 65536) {i : Nat} (hi : i < n) :
    Calls Try.prog 143 #[.pointer (some ⟨g, 0, none⟩), .int .i64 (i : Int)] w fun e w' => e = .returned (.bool (p i)) ∧ w' = w := by
  have hc1 := hS.c1
  have hw := hS.word (k := i / 64) (by omega)
  have HB := Aside0.mk (has_bit p i)
  have HS := Aside0.mk hS
  have i0 : (0 : Int) ≤ (i : Int) := by omega
  have i1 : (i : Int) < (n : Int) := by omega
  have k0 : (0 : Int) ≤ (i : Int) / 64 := by omega
  have k1 : (i : Int) / 64 < (((n + 63) / 64 : Nat) : Int) := by omega
  have e1 := Mk.and63 i (by omega)
  have e2 : IntKind.u64.wrap ((i % 64 : Nat) : Int) = ((i % 64 : Nat) : Int) := by rw [IntKind.wrap_u64]; omega
  have e3 : ((i : Int) / 64).toNat = i / 64 := by omega
  have e4 : min (i % 64) 64 = i % 64 := Nat.min_eq_left (by omega)
  clear hS
  go_enter Try.func143, Try.ntmps143
  go_wp2_with (go_at_call 141; refine (marks_Set_Width.calls HS.out).mono ?_; rintro e w' ⟨rfl, rfl⟩)
  go_ret
  exact ⟨congrArg (fun b => Ending.returned (.bool b)) HB.out, rfl⟩


/-! ### marks_Set_Drop: function 125 -/
-- by hand
theorem drop_bit (p : Nat → Bool) (i : Nat) : Go.bits .andNot .u64 (Mk.wd p 64 (64 * (i / 64)) : Int) (IntKind.u64.wrap (2 ^ (i % 64))) = ((Mk.wd (Mk.upd p i false) 64 (64 * (i / 64)) : Nat) : Int) := by
  have hlt := Mk.wd_lt p 64 (64 * (i / 64))
  have h : (2 : Nat) ^ (i % 64) < 2 ^ 64 := Nat.pow_lt_pow_right (by decide) (Nat.mod_lt _ (by decide))
  rw [Mk.shl1 _ (Nat.mod_lt _ (by decide)), u64_andNot_nat _ _ hlt h, Mk.wd_andNot]
set_option maxRecDepth 100000 in
set_option maxHeartbeats 4000000 in
theorem marks_Set_Drop.calls {g A n : Nat} {p : Nat → Bool} {w : World} (hS : Mk.SetAt 60 175 w g A n p) (hn : n ≤ 65536) {i : Nat} (hi : i < n) :
    Calls Try.prog 125 #[.pointer (some ⟨g, 0, none⟩), .int .i64 (i : Int)] w fun e w' => e = .returned (.bool (p i)) ∧ Mk.SetAt 60 175 w' g A n (Mk.upd p i false) ∧ Mut (Mk.foot g A) w (Mk.foot g A) w' := by
  have hc1 := hS.c1
  have hw := hS.word (k := i / 64) (by omega)
  have hf := hS.frozen (i / 64)
  have HS := Aside0.mk hS
  have i0 : (0 : Int) ≤ (i : Int) := by omega
  have i1 : (i : Int) < (n : Int) := by omega
  have k0 : (0 : Int) ≤ (i : Int) / 64 := by omega
  have k1 : (i : Int) / 64 < (((n + 63) / 64 : Nat) : Int) := by omega
  have e1 := Mk.and63 i (by omega)
  have e2 : IntKind.u64.wrap ((i % 64 : Nat) : Int) = ((i % 64 : Nat) : Int) := by rw [IntKind.wrap_u64]; omega
  have e3 : ((i : Int) / 64).toNat = i / 64 := by omega
  have e4 : min (i % 64) 64 = i % 64 := Nat.min_eq_left (by omega)
  have e6 := drop_bit p i
  have HI := Aside0.mk hi
  have HN := Aside0.mk hn
  clear hS
  cases hp : p i with
  | false =>
    have hu : Mk.upd p i false = p := by
      funext j
      unfold Mk.upd
      split
      · rename_i e; rw [e, hp]
      · rfl
    have HU := Aside0.mk hu
    have hh : Calls Try.prog 143 #[.pointer (some ⟨g, 0, none⟩), .int .i64 (i : Int)] w fun e w' => e = .returned (.bool false) ∧ w' = w := by
      have := marks_Set_Has.calls HS.out hn hi
      rwa [hp] at this
    have HH := Aside0.mk hh
    clear hh hu hp
    go_enter Try.func125, Try.ntmps125
    go_wp2_with (go_at_call 143; refine HH.out.mono ?_; rintro e w' ⟨rfl, rfl⟩)
    go_ret
    exact ⟨rfl, by rw [HU.out]; exact HS.out, Mut.refl _ _⟩
  | true =>
    have hh : Calls Try.prog 143 #[.pointer (some ⟨g, 0, none⟩), .int .i64 (i : Int)] w fun e w' => e = .returned (.bool true) ∧ w' = w := by
      have := marks_Set_Has.calls HS.out hn hi
      rwa [hp] at this
    have HH := Aside0.mk hh
    have HS2 := Aside0.mk (HS.out.upd hi false rfl)
    clear hh hp
    go_enter Try.func125, Try.ntmps125
    go_wp2_with (go_at_call 143; refine HH.out.mono ?_; rintro e w' ⟨rfl, rfl⟩)
    go_ret
    exact ⟨rfl, HS2.out, (Mut.refl _ _).set (p := ⟨A, i / 64, none⟩) (.inr rfl) _⟩


/-! ### marks_Set_Put: function 126 -/
-- by hand
theorem put_bit (p : Nat → Bool) (i : Nat) : Go.bits .or .u64 (Mk.wd p 64 (64 * (i / 64)) : Int) (IntKind.u64.wrap (2 ^ (i % 64))) = ((Mk.wd (Mk.upd p i true) 64 (64 * (i / 64)) : Nat) : Int) := by
  have hlt := Mk.wd_lt p 64 (64 * (i / 64))
  have h : (2 : Nat) ^ (i % 64) < 2 ^ 64 := Nat.pow_lt_pow_right (by decide) (Nat.mod_lt _ (by decide))
  rw [Mk.shl1 _ (Nat.mod_lt _ (by decide)), u64_or_nat _ _ hlt h, Mk.wd_or]
set_option maxRecDepth 100000 in
set_option maxHeartbeats 4000000 in
theorem marks_Set_Put.calls {g A n : Nat} {p : Nat → Bool} {w : World} (hS : Mk.SetAt 60 175 w g A n p) (hn : n ≤ 65536) {i : Nat} (hi : i < n) :
    Calls Try.prog 126 #[.pointer (some ⟨g, 0, none⟩), .int .i64 (i : Int)] w fun e w' => e = .returned (.bool (!p i)) ∧ Mk.SetAt 60 175 w' g A n (Mk.upd p i true) ∧ Mut (Mk.foot g A) w (Mk.foot g A) w' := by
  have hc1 := hS.c1
  have hw := hS.word (k := i / 64) (by omega)
  have hf := hS.frozen (i / 64)
  have HS := Aside0.mk hS
  have i0 : (0 : Int) ≤ (i : Int) := by omega
  have i1 : (i : Int) < (n : Int) := by omega
  have k0 : (0 : Int) ≤ (i : Int) / 64 := by omega
  have k1 : (i : Int) / 64 < (((n + 63) / 64 : Nat) : Int) := by omega
  have e1 := Mk.and63 i (by omega)
  have e2 : IntKind.u64.wrap ((i % 64 : Nat) : Int) = ((i % 64 : Nat) : Int) := by rw [IntKind.wrap_u64]; omega
  have e3 : ((i : Int) / 64).toNat = i / 64 := by omega
  have e4 : min (i % 64) 64 = i % 64 := Nat.min_eq_left (by omega)
  have e6 := put_bit p i
  have HI := Aside0.mk hi
  have HN := Aside0.mk hn
  have i2 : ¬ ((n : Int) ≤ (i : Int)) := by omega
  have i3 : ¬ ((i : Int) < 0) := by omega
  clear hS
  cases hp : p i with
  | true =>
    have hu : Mk.upd p i true = p := by
      funext j
      unfold Mk.upd
      split
      · rename_i e; rw [e, hp]
      · rfl
    have HU := Aside0.mk hu
    have hh : Calls Try.prog 143 #[.pointer (some ⟨g, 0, none⟩), .int .i64 (i : Int)] w fun e w' => e = .returned (.bool true) ∧ w' = w := by
      have := marks_Set_Has.calls HS.out hn hi
      rwa [hp] at this
    have HH := Aside0.mk hh
    clear hh hu hp
    go_enter Try.func126, Try.ntmps126
    go_wp2_with (first
      | (go_at_call 141; refine (marks_Set_Width.calls HS.out).mono ?_; rintro e w' ⟨rfl, rfl⟩)
      | (go_at_call 143; refine HH.out.mono ?_; rintro e w' ⟨rfl, rfl⟩))
    go_ret
    exact ⟨rfl, by rw [HU.out]; exact HS.out, Mut.refl _ _⟩
  | false =>
    have hh : Calls Try.prog 143 #[.pointer (some ⟨g, 0, none⟩), .int .i64 (i : Int)] w fun e w' => e = .returned (.bool false) ∧ w' = w := by
      have := marks_Set_Has.calls HS.out hn hi
      rwa [hp] at this
    have HH := Aside0.mk hh
    have HS2 := Aside0.mk (HS.out.upd hi true rfl)
    clear hh hp
    go_enter Try.func126, Try.ntmps126
    go_wp2_with (first
      | (go_at_call 141; refine (marks_Set_Width.calls HS.out).mono ?_; rintro e w' ⟨rfl, rfl⟩)
      | (go_at_call 143; refine HH.out.mono ?_; rintro e w' ⟨rfl, rfl⟩))
    go_ret
    exact ⟨rfl, HS2.out, (Mut.refl _ _).set (p := ⟨A, i / 64, none⟩) (.inr rfl) _⟩


/-! ### reuse_Distances: function 107 -/
-- by hand
/-- The marks behind so many places: the last one, so far, of each key. -/
def marksTo (l : List Int) : Nat → Nat → Bool
  | 0 => fun _ => false
  | k + 1 => Mk.upd (if rd (lastOf l) (k : Int) = -1 then marksTo l k else Mk.upd (marksTo l k) (rd (lastOf l) (k : Int)).toNat false) k true
/-- A place's distance, as it is reckoned. -/
def distVal (l : List Int) (k : Nat) : Int :=
  if rd (lastOf l) (k : Int) = -1 then -1 else (Mk.cnt (marksTo l k) k 0 : Int) - (Mk.cnt (marksTo l k) (rd (lastOf l) (k : Int)).toNat 0 : Int) - 1
def distOf (l : List Int) : List Int := (List.range l.length).map (distVal l)
theorem distOf_length (l : List Int) : (distOf l).length = l.length := by simp [distOf]
theorem dist_set (l : List Int) (k : Nat) (v : Int) (hk : k < l.length) (hv : v = distVal l k) :
    ((distOf l).take k ++ List.replicate (l.length - k) 0).set k v = (distOf l).take (k + 1) ++ List.replicate (l.length - (k + 1)) 0 := by
  have h1 : ((distOf l).take k).length = k := by rw [List.length_take, distOf_length]; omega
  rw [List.set_append_right _ _ (by omega), h1, Nat.sub_self]
  have e : l.length - k = (l.length - (k + 1)) + 1 := by omega
  rw [e, List.replicate_succ, List.set_cons_zero, List.take_succ_eq_append_getElem (by rw [distOf_length]; exact hk), List.append_assoc]
  congr 1
  rw [hv]
  simp [distOf]
theorem own_far {w w' : World} {base g n cap m : Nat} {e : TypeId} {s : Nat} {xs : List Value} (h : w.ownsRow base e s (.slice (some ⟨g, 0, none⟩) n cap) m xs) (hb : w'.heap[g]? = w.heap[g]?) : w'.ownsRow base e s (.slice (some ⟨g, 0, none⟩) n cap) m xs := by
  obtain ⟨h1, h2⟩ := h
  rcases h2 with ⟨hn, _⟩ | ⟨g', cap', cur, hv, hg, hh, h3, h4, h5, h6⟩
  · exact absurd hn (by simp)
  · injection hv with e1 e2 e3
    injection e1 with e1
    injection e1 with e1
    subst e1
    exact ⟨h1, .inr ⟨g, cap', cur, by rw [e2, e3], hg, hb.trans hh, h3, h4, h5, h6⟩⟩
theorem distLast_at (l : List Int) (k : Nat) (h : k < l.length) : rd (lastOf l) (k : Int) = (lastIn (l.take k) (l.getD k 0)).getD (-1) := by
  have h' : k < (lastOf l).length := by rw [lastOf_length]; exact h
  have e : rd (lastOf l) (k : Int) = (lastOf l)[k] := by simp [rd, List.getD_eq_getElem?_getD, List.getElem?_eq_getElem h']
  rw [e]
  simp [lastOf]
theorem distLast_range (l : List Int) (k : Nat) (h : k < l.length) : rd (lastOf l) (k : Int) = -1 ∨ (0 ≤ rd (lastOf l) (k : Int) ∧ rd (lastOf l) (k : Int) < k) := by
  rw [distLast_at l k h]
  cases hy : lastIn (l.take k) (l.getD k 0) with
  | none => exact .inl rfl
  | some y =>
    have := lastIn_range _ (l.take k) rfl _ y hy
    rw [List.length_take] at this
    simp only [Option.getD_some]
    exact .inr (by omega)
def reuse_Distances.f (l0 : List Int) : Option (List Int) := if l0.length ≤ 4096 ∧ (∀ x ∈ l0, (Lit.int .u64 x).wf = true) then some (distOf l0) else none
set_option maxRecDepth 100000 in
set_option maxHeartbeats 400000 in
theorem reuse_Distances.calls (A0 : Option Addr) (c0 : Nat) (l0 : List Int) (r : List Int) (w : World) (hr0 : Kd.C (Kd.int .u64) w A0 l0.length l0) (hc0 : l0.length ≤ c0) (h : reuse_Distances.f l0 = some r) :
    Calls Try.prog 107 #[.slice A0 l0.length c0] w fun e w' => ∃ v0_ : Value, e = .returned (v0_) ∧ Kd.R (Kd.int .i64) 3 w' w.heap.size (fun _ => True) v0_ r ∧ Below w.heap.size w w' := by
  unfold reuse_Distances.f at h
  by_cases hh : l0.length ≤ 4096 ∧ (∀ x ∈ l0, (Lit.int .u64 x).wf = true)
  · rw [if_pos hh] at h
    obtain rfl := Option.some.inj h
    clear h
    obtain ⟨hlen, hw⟩ := hh
    have hla : reuse_Last.f l0 = some (lastOf l0) := by unfold reuse_Last.f; rw [if_neg (by omega), if_pos hw]
    obtain ⟨n, hn⟩ : ∃ n, n = l0.length := ⟨_, rfl⟩
    obtain ⟨la, hlad⟩ : ∃ la, la = lastOf l0 := ⟨_, rfl⟩
    have hll : la.length = n := by rw [hlad, lastOf_length, hn]
    have hlr : ∀ k : Nat, k < n → rd la (k : Int) = -1 ∨ (0 ≤ rd la (k : Int) ∧ rd la (k : Int) < k) := fun k hk => by rw [hlad]; exact distLast_range l0 k (by omega)
    have hst : ∀ k : Nat, marksTo l0 (k + 1) = Mk.upd (if rd la (k : Int) = -1 then marksTo l0 k else Mk.upd (marksTo l0 k) (rd la (k : Int)).toNat false) k true := fun k => by rw [hlad]; rfl
    have hdv : ∀ k : Nat, distVal l0 k = if rd la (k : Int) = -1 then -1 else (Mk.cnt (marksTo l0 k) k 0 : Int) - (Mk.cnt (marksTo l0 k) (rd la (k : Int)).toNat 0 : Int) - 1 := fun k => by rw [hlad]; rfl
    have hds : ∀ (k : Nat) (v : Int), k < n → v = distVal l0 k → ((distOf l0).take k ++ List.replicate (n - k) 0).set k v = (distOf l0).take (k + 1) ++ List.replicate (n - (k + 1)) 0 := fun k v hk hv => by rw [hn]; exact dist_set l0 k v (by omega) hv
    have hdl : (distOf l0).length = n := by rw [distOf_length, hn]
    rw [← hlad] at hla
    have HR0 := Aside0.mk hr0
    have HC0 := Aside0.mk hc0
    have HLA := Aside0.mk hla
    have HLL := Aside0.mk hll
    have HLR := Aside0.mk hlr
    have HST := Aside0.mk hst
    have HDV := Aside0.mk hdv
    have HDS := Aside0.mk hds
    have HDL := Aside0.mk hdl
    have HN := Aside0.mk hn
    rw [← hn] at hlen ⊢
    clear hr0 hc0 hla hll hlr hst hdv hds hdl hlad hw hn
    have hmk := print_make (P := Try.prog) 72 3 .i64 8 Try.underlying72 info3 (by decide) n (by omega)
    have hlen2 : n ≤ 65536 := by omega
    go_enter Try.func107, Try.ntmps107
    go_wp2_with (first
      | (go_at_call 118; go_loud (rw [HN.out]; refine (reuse_Last.calls _ _ l0 _ _ HR0.out HC0.out HLA.out).mono ?_; rw [← HN.out]; rintro e w1 ⟨v, rfl, hO, hB⟩; obtain ⟨A, c, hv, hl, hr⟩ := Kd.R_reads hO; subst hv; rw [HLL.out] at hl hr ⊢; have HRL := Aside0.mk hr; have HB1 := Aside0.mk hB; clear hO hB hl hr))
      | (go_at_call 123; refine (marks_New.calls hlen2).mono ?_; rintro e w2 ⟨g, M, rfl, hS, hg, hM, hB⟩; have HS2 := Aside0.mk hS; have HG := Aside0.mk hg; have HM := Aside0.mk hM; have HB2 := Aside0.mk hB; clear hS hg hM hB))
    have hO0 : Kd.R (Kd.int .i64) 3 (w2.alloc (.cells (madeCells #[.int .i64 0] n) 3)) w2.heap.size (fun _ => True) (.slice (some ⟨w2.heap.size, 0, none⟩) n n) ((distOf l0).take 0 ++ List.replicate (n - 0) 0) := by
      have h := own_made w2 w2.heap.size 3 .i64 n (Nat.le_refl _) (by omega)
      exact Kd.R_of_own (by rw [List.take_zero, List.nil_append, Nat.sub_zero, List.length_replicate]; exact h) (fun _ _ => trivial)
    have HO0 := Aside0.mk hO0
    have hgl : g < w2.heap.size := blk_lt HS2.out.blk
    have hml : M < w2.heap.size := HS2.out.arr.lt
    have HS0 : Aside0 (Mk.SetAt 60 175 (w2.alloc (.cells (madeCells #[.int .i64 0] n) 3)) g M n (marksTo l0 0)) := ⟨HS2.out.far (Below.heap_alloc _ _ _ hgl) (Below.heap_alloc _ _ _ hml)⟩
    have HB0 := Aside0.mk (below_alloc HB2.out (.cells (madeCells #[.int .i64 0] n) 3))
    have HBN : Aside0 (g ≠ w2.heap.size ∧ M ≠ w2.heap.size ∧ w1.heap.size ≤ w2.heap.size ∧ w1.heap.size ≤ w2.heap.size) := ⟨Nat.ne_of_lt hgl, Nat.ne_of_lt hml, HB2.out.size, HB2.out.size⟩
    clear hO0 hgl hml
    go_loopw [24, 7, 8] (fun v24 v7 v8 wr => ∃ k : Nat, v24 = .int .i64 k ∧ k ≤ n ∧ Aside0 (Kd.R (Kd.int .i64) 3 wr w2.heap.size (fun _ => True) (.slice (some ⟨w2.heap.size, 0, none⟩) n n) ((distOf l0).take k ++ List.replicate (n - k) 0)) ∧ Aside0 (Mk.SetAt 60 175 wr g M n (marksTo l0 k)) ∧ Aside0 (Below w1.heap.size w1 wr)) (fun v24 _ _ _ => n - (intOf v24).toNat)
    case atStart => exact ⟨0, rfl, Nat.zero_le _, HO0, HS0, HB0⟩
    case round =>
      clear HO0 HS0 HB0
      obtain ⟨k, rfl, hk, HO, HS, HBW⟩ := hrel
      by_cases hlt : k < n
      · have p1 : (0 : Int) ≤ (k : Int) := by omega
        have q1 : (k : Int) < (n : Int) := by omega
        obtain ⟨ad, e1, hx⟩ := Kd.at_int HRL.out (k : Int) p1 q1
        cases e1
        replace hx := pw_cell_below HBW.out hx
        rw [Int.toNat_natCast] at hx
        have hlr := HLR.out k hlt
        have hst := HST.out k
        have hdv := HDV.out k
        obtain ⟨y, hy⟩ : ∃ y, y = rd la (k : Int) := ⟨_, rfl⟩
        rw [← hy] at hx hlr hst hdv
        have hal : ((distOf l0).take k ++ List.replicate (n - k) 0).length = n := by rw [List.length_append, List.length_take, HDL.out, List.length_replicate]; omega
        have ho := Kd.own_of_R HO.out
        rw [hal] at ho
        obtain ⟨hc1, hf1⟩ := own_at_of (d := (0 : Int)) ho (k : Int) p1 q1
        rw [Int.toNat_natCast] at hc1 hf1
        have hput : ∀ (W : World) (xs : List Int) (v : Int), Kd.R (Kd.int .i64) 3 W w2.heap.size (fun _ => True) (.slice (some ⟨w2.heap.size, 0, none⟩) n n) xs → Kd.R (Kd.int .i64) 3 (W.setCell ⟨w2.heap.size, k, none⟩ (.int .i64 v)) w2.heap.size (fun _ => True) (.slice (some ⟨w2.heap.size, 0, none⟩) n n) (xs.set k v) := fun W xs v h => by
          have := Kd.R_putn h (k : Int) v
          rwa [Int.toNat_natCast] at this
        have hsf : ∀ (W : World) (p : Nat → Bool) (v : Value), Mk.SetAt 60 175 W g M n p → Mk.SetAt 60 175 (W.setCell ⟨w2.heap.size, k, none⟩ v) g M n p := fun W p v h => h.far (Below.heap_setCell W _ _ g HBN.out.1) (Below.heap_setCell W _ _ M HBN.out.2.1)
        have hof : ∀ (W W' : World) (xs : List Int), Kd.R (Kd.int .i64) 3 W w2.heap.size (fun _ => True) (.slice (some ⟨w2.heap.size, 0, none⟩) n n) xs → Mut (Mk.foot g M) W (Mk.foot g M) W' → Kd.R (Kd.int .i64) 3 W' w2.heap.size (fun _ => True) (.slice (some ⟨w2.heap.size, 0, none⟩) n n) xs := fun W W' xs h hm => by
          have ho := Kd.own_of_R h
          have hlt : w2.heap.size < W.heap.size := by
            rcases ho.2 with ⟨hn, _⟩ | ⟨g', cap', cur, hv, hg, hh, _⟩
            · exact absurd hn (by simp)
            · injection hv with e1 e2 e3
              injection e1 with e1
              injection e1 with e1
              subst e1
              exact blk_lt hh
          exact Kd.R_of_own (own_far ho (hm.block w2.heap.size hlt (fun hf => hf.elim (fun e => HBN.out.1 e.symm) (fun e => HBN.out.2.1 e.symm)))) (fun _ _ => trivial)
        have hbm : ∀ (W W' : World), Below w1.heap.size w1 W → Mut (Mk.foot g M) W (Mk.foot g M) W' → Below w1.heap.size w1 W' := fun W W' h hm => h.trans (hm.below (fun j hj => hj.elim (fun e => e ▸ HG.out) (fun e => e ▸ HM.out)) h.size)
        have hbs : ∀ (W : World) (v : Value), Below w1.heap.size w1 W → Below w1.heap.size w1 (W.setCell ⟨w2.heap.size, k, none⟩ v) := fun W v h => Below.setCell h (p := ⟨w2.heap.size, k, none⟩) HBN.out.2.2.1 v
        have HPUT := Aside0.mk hput
        have HSF := Aside0.mk hsf
        have HOF := Aside0.mk hof
        have HBM := Aside0.mk hbm
        have HBS := Aside0.mk hbs
        have HSTK := Aside0.mk hst
        have HDVK := Aside0.mk hdv
        have HDSK := Aside0.mk (fun v => HDS.out k v hlt)
        have HLT := Aside0.mk hlt
        have p2 := eq_true p1
        have q2 := eq_true q1
        clear hy hst hdv ho hal hput hsf hof hbm hbs
        by_cases hm : y = -1
        · have b1 : (y == -1) = true := beq_iff_eq.2 hm
          have b2 : (y != -1) = false := bne_eq_false_iff_eq.2 hm
          have HY := Aside0.mk hm
          clear hm hlr
          go_wp2_with (first
            | (go_at_call 126; go_loud (refine (marks_Set_Put.calls (HSF.out _ _ _ HS.out) hlen2 HLT.out).mono ?_); rintro e w3 ⟨rfl, hs3, hm3⟩; have HS3 := Aside0.mk hs3; have HM3 := Aside0.mk hm3; clear hs3 hm3))
          have hst := HSTK.out
          have hdv := HDVK.out
          rw [if_pos HY.out] at hst hdv
          have HO2 : Aside0 (Kd.R (Kd.int .i64) 3 w3 w2.heap.size (fun _ => True) (.slice (some ⟨w2.heap.size, 0, none⟩) n n) ((distOf l0).take (k + 1) ++ List.replicate (n - (k + 1)) 0)) := ⟨by rw [← HDSK.out (-1) hdv.symm]; exact HOF.out _ _ _ (HPUT.out _ _ _ HO.out) HM3.out⟩
          have HS4 : Aside0 (Mk.SetAt 60 175 w3 g M n (marksTo l0 (k + 1))) := ⟨by rw [hst]; exact HS3.out⟩
          have HB4 := Aside0.mk (HBM.out _ _ (HBS.out _ _ HBW.out) HM3.out)
          clear hst hdv
          go_roundw
          case rel => exact ⟨k + 1, by go_num, by omega, HO2, HS4, HB4⟩
          case measure => simp [intOf]; omega
        · have b1 : (y == -1) = false := beq_eq_false_iff_ne.2 hm
          have b2 : (y != -1) = true := bne_iff_ne.2 hm
          obtain ⟨hy0, hy1⟩ := hlr.resolve_left hm
          obtain ⟨m, rfl⟩ := Int.eq_ofNat_of_zero_le hy0
          have HMK : Aside0 (m < n) := ⟨by omega⟩
          have HMK2 : Aside0 (m ≤ n) := ⟨by omega⟩
          have HKN : Aside0 (k ≤ n) := ⟨by omega⟩
          have hst := HSTK.out
          have hdv := HDVK.out
          rw [if_neg hm, Int.toNat_natCast] at hst hdv
          obtain ⟨pk, hpk⟩ : ∃ pk, pk = marksTo l0 k := ⟨_, rfl⟩
          rw [← hpk] at hst hdv HS
          have c1 := Mk.cnt_le pk k 0
          have c2 := Mk.cnt_le pk m 0
          have s1 : IntKind.i64.wrap ((Mk.cnt pk k 0 : Int) - (Mk.cnt pk m 0 : Int)) = (Mk.cnt pk k 0 : Int) - (Mk.cnt pk m 0 : Int) := by rw [IntKind.wrap_i64]; omega
          have s2 : wrap64 ((Mk.cnt pk k 0 : Int) - (Mk.cnt pk m 0 : Int)) = (Mk.cnt pk k 0 : Int) - (Mk.cnt pk m 0 : Int) := by unfold wrap64; omega
          have s3 : IntKind.i64.wrap ((Mk.cnt pk k 0 : Int) - (Mk.cnt pk m 0 : Int) - 1) = distVal l0 k := by rw [IntKind.wrap_i64, hdv]; omega
          have s4 : wrap64 ((Mk.cnt pk k 0 : Int) - (Mk.cnt pk m 0 : Int) - 1) = distVal l0 k := by unfold wrap64; rw [hdv]; omega
          have HST2 := Aside0.mk hst
          clear c1 c2 hst hdv hy0 hy1 hm hlr hpk HSTK HDVK
          go_wp2_with (first
            | (go_at_call_of 124 (Value.int .i64 (k : Int)); go_loud (refine (marks_Set_Rank.calls (HSF.out _ _ _ HS.out) hlen2 HKN.out).mono ?_); rintro e wd ⟨rfl, ⟨nd, rfl⟩⟩)
            | (go_at_call_of 124 (Value.int .i64 (m : Int)); go_loud (refine (marks_Set_Rank.calls ((HSF.out _ _ _ HS.out).drewN _) hlen2 HMK2.out).mono ?_); rintro e wd2 ⟨rfl, ⟨nd2, rfl⟩⟩)
            | (go_at_call 125; go_loud (refine (marks_Set_Drop.calls (HSF.out _ _ _ ((HSF.out _ _ _ HS.out).drewN _)) hlen2 HMK.out).mono ?_); rintro e w3 ⟨rfl, hs3, hm3⟩; have HS3 := Aside0.mk hs3; have HM3 := Aside0.mk hm3; clear hs3 hm3)
            | (go_at_call 126; go_loud (refine (marks_Set_Put.calls HS3.out hlen2 HLT.out).mono ?_); rintro e w4 ⟨rfl, hs4, hm4⟩; have HS4 := Aside0.mk hs4; have HM4 := Aside0.mk hm4; clear hs4 hm4))
          have HM0 := Aside0.mk ((Mut.refl (Mk.foot g M) (wr.setCell ⟨w2.heap.size, k, none⟩ (.int .i64 (-1)))).drewN (nd + nd2))
          have ho := HOF.out _ _ _ (HOF.out _ _ _ (HPUT.out _ _ (distVal l0 k) (HOF.out _ _ _ (HPUT.out _ _ (-1) HO.out) HM0.out)) HM3.out) HM4.out
          rw [List.set_set, HDSK.out _ rfl] at ho
          have HO2 := Aside0.mk ho
          have HS5 : Aside0 (Mk.SetAt 60 175 w4 g M n (marksTo l0 (k + 1))) := ⟨by rw [HST2.out]; exact HS4.out⟩
          have HB4 := Aside0.mk (HBM.out _ _ (HBM.out _ _ (HBS.out _ (.int .i64 (distVal l0 k)) (HBM.out _ _ (HBS.out _ (.int .i64 (-1)) HBW.out) HM0.out)) HM3.out) HM4.out)
          clear ho
          go_roundw
          case rel => exact ⟨k + 1, by go_num, by omega, HO2, HS5, HB4⟩
          case measure => simp [intOf]; omega
      · have hkn : k = n := by omega
        subst hkn
        go_wp2
        go_ret
        refine ⟨_, rfl, ?_, HB1.out.trans (HBW.out.mono HB1.out.size)⟩
        have := HO.out
        rw [Nat.sub_self, List.replicate_zero, List.append_nil, List.take_of_length_le (Nat.le_of_eq HDL.out)] at this
        exact Kd.R_lower this (Nat.le_trans HB1.out.size HBN.out.2.2.1)
  · rw [if_neg hh] at h
    exact absurd h (by simp)


/-! ### slices_Max_int_int: function 108 -/
-- by hand
/-- The greatest. -/
def mxOf (l : List Int) : Int := match l with | [] => 0 | x :: r => r.foldl (fun a b => if a < b then b else a) x
theorem mxOf_snoc (l : List Int) (y : Int) (h : l ≠ []) : mxOf (l ++ [y]) = if mxOf l < y then y else mxOf l := by
  cases l with
  | nil => exact absurd rfl h
  | cons x r =>
    show List.foldl _ x (r ++ [y]) = _
    rw [List.foldl_append]
    rfl
def slices_Max_int_int.f (l0 : List Int) : Option Int := if l0 = [] then none else some (mxOf l0)
set_option maxRecDepth 100000 in
set_option maxHeartbeats 1600000 in
theorem slices_Max_int_int.calls (A0 : Option Addr) (c0 : Nat) (l0 : List Int) (r : Int) (w : World) (hr0 : Kd.C (Kd.int .i64) w A0 l0.length l0) (hc0 : l0.length ≤ c0) (h : slices_Max_int_int.f l0 = some r) :
    Calls Try.prog 108 #[.slice A0 l0.length c0] w fun e w' => e = .returned (.int .i64 r) ∧ Drawn0 w w' := by
  unfold slices_Max_int_int.f at h
  by_cases hne : l0 = []
  · rw [if_pos hne] at h
    exact absurd h (by simp)
  rw [if_neg hne] at h
  obtain rfl := Option.some.inj h
  clear h
  have hm := hr0.2.1
  obtain ⟨n, hn⟩ : ∃ n, n = l0.length := ⟨_, rfl⟩
  have hn0 : 0 < n := by rw [hn]; exact List.length_pos_iff.2 hne
  have h0 : mxOf (l0.take 1) = rd l0 0 := by
    cases l0 with
    | nil => exact absurd rfl hne
    | cons x r => simp [mxOf, rd]
  have hst : ∀ k : Nat, 0 < k → k < n → mxOf (l0.take (k + 1)) = if mxOf (l0.take k) < rd l0 (k : Int) then rd l0 (k : Int) else mxOf (l0.take k) := fun k hk0 hk => by
    have hk' : k < l0.length := by omega
    rw [List.take_succ_eq_append_getElem hk', mxOf_snoc _ _ (by intro e; have := congrArg List.length e; rw [List.length_take, List.length_nil, Nat.min_eq_left (by omega)] at this; omega)]
    have : rd l0 (k : Int) = l0[k] := by simp [rd, List.getD_eq_getElem?_getD, List.getElem?_eq_getElem hk']
    rw [this]
  have hfin : mxOf (l0.take n) = mxOf l0 := by rw [hn, List.take_length]
  have HST := Aside0.mk hst
  have HFIN := Aside0.mk hfin
  have H0 := Aside0.mk h0
  rw [← hn] at hr0 hm ⊢
  have HR0 := Aside0.mk hr0
  have b0 : decide ((n : Int) < 1) = false := decide_eq_false (by omega)
  have q0 : (0 : Int) < (n : Int) := by omega
  obtain ⟨ad, e1, hx⟩ := Kd.at_int HR0.out 0 (by decide) q0
  cases e1
  rw [← h0, show ad.add (Int.toNat 0) = ad by cases ad; simp [Addr.add]] at hx
  clear hst hfin h0 hr0 hn hc0 hne
  go_enter Try.func108, Try.ntmps108
  go_wp2
  go_loopw [3, 4] (fun v3 v4 wr => ∃ k : Nat, v4 = .int .i64 k ∧ 0 < k ∧ k ≤ n ∧ v3 = .int .i64 (mxOf (l0.take k)) ∧ wr = w) (fun _ v4 _ => n - (intOf v4).toNat)
  case atStart => exact ⟨1, rfl, by decide, hn0, rfl, rfl⟩
  case round =>
    clear hx
    obtain ⟨k, rfl, hk0, hk, rfl, rfl⟩ := hrel
    by_cases hlt : k < n
    · have p1 : (0 : Int) ≤ (k : Int) := by omega
      have q1 : (k : Int) < (n : Int) := by omega
      obtain ⟨ad2, e2, hx⟩ := Kd.at_int HR0.out (k : Int) p1 q1
      cases e2
      rw [Int.toNat_natCast] at hx
      have hst := HST.out k hk0 hlt
      obtain ⟨y, hy⟩ : ∃ y, y = rd l0 (k : Int) := ⟨_, rfl⟩
      obtain ⟨z, hz⟩ : ∃ z, z = mxOf (l0.take k) := ⟨_, rfl⟩
      rw [← hy] at hx hst
      rw [← hz] at hst ⊢
      have HS2 := Aside0.mk hst
      clear hy hz hst
      have p2 := eq_true p1
      have q2 := eq_true q1
      go_wp2
      go_roundw
      case rel => exact ⟨k + 1, by go_num, by omega, by omega, by rw [HS2.out], trivial⟩
      case measure => simp [intOf]; omega
    · have hkn : k = n := by omega
      subst hkn
      go_wp2
      go_ret
      exact ⟨congrArg (fun z => Ending.returned (.int .i64 z)) HFIN.out, ⟨0, rfl⟩⟩

/-! ### reuse_Histogram: function 90 -/
def reuse_Histogram.l0 : Nat → List Int → Int → List Int → Int → Int → Option (List Int × Int)
  | 0, _, _, _, _, _ => none
  | k + 1, x5, x6, x18, x19, x20 => if x20 < x19 then (if 0 ≤ x20 then (if x20 < (x18.length : Int) then (if (rd x18 x20) = (-1) then (reuse_Histogram.l0 k x5 (wrap64 (x6 + 1)) x18 x19 (wrap64 (x20 + 1))) else (if 0 ≤ (rd x18 x20) then (if (rd x18 x20) < (x5.length : Int) then (reuse_Histogram.l0 k (x5.set ((rd x18 x20) : Int).toNat (wrap64 ((rd x5 (rd x18 x20)) + 1))) x6 x18 x19 (wrap64 (x20 + 1))) else (none)) else (none))) else (none)) else (none)) else (some (x5, x6))
def reuse_Histogram.f (k : Nat) (l0 : List Int) : Option (List Int × Int) := (reuse_Distances.f l0).bind fun t116 => (if (t116.length : Int) = 0 then (some (([] : List Int), 0)) else ((slices_Max_int_int.f t116).bind fun t119 => (if 0 ≤ (wrap64 (t119 + 1)) then (if (wrap64 (t119 + 1) : Int).toNat ≤ 35184372088832 then (reuse_Histogram.l0 k (List.replicate (wrap64 (t119 + 1) : Int).toNat 0) 0 t116 (t116.length : Int) 0) else (none)) else (none))))
theorem reuse_Histogram.mono_l : ∀ k, (∀ y0 y1 y2 y3 y4, LeO (reuse_Histogram.l0 k y0 y1 y2 y3 y4) (reuse_Histogram.l0 (k + 1) y0 y1 y2 y3 y4))
  | 0 => fun _ _ _ _ _ r h => by simp [reuse_Histogram.l0] at h
  | k + 1 => by
    have ih0 := reuse_Histogram.mono_l k
    · intro y0 y1 y2 y3 y4
      unfold reuse_Histogram.l0
      repeat' first
      | (with_reducible exact ih0 _ _ _ _ _)
      | (with_reducible exact LeO.refl _)
      | (with_reducible exact LeO.none _)
      | (with_reducible refine LeO.ite ?_ ?_)
      | (with_reducible refine LeO.bind ?_ (fun _ => ?_))
      | exact ih0 _ _ _ _ _
      | exact LeO.none _
      | refine LeO.ite ?_ ?_
      | refine LeO.bind ?_ (fun _ => ?_)
theorem reuse_Histogram.mono : ∀ a0 k, LeO (reuse_Histogram.f k a0) (reuse_Histogram.f (k + 1) a0) := by
  intro a0 k
  have ih0 := reuse_Histogram.mono_l k
  unfold reuse_Histogram.f
  repeat' first
      | (with_reducible exact ih0 _ _ _ _ _)
      | (with_reducible exact LeO.refl _)
      | (with_reducible exact LeO.none _)
      | (with_reducible refine LeO.ite ?_ ?_)
      | (with_reducible refine LeO.bind ?_ (fun _ => ?_))
      | exact ih0 _ _ _ _ _
      | exact LeO.none _
      | refine LeO.ite ?_ ?_
      | refine LeO.bind ?_ (fun _ => ?_)
set_option maxHeartbeats 8000000 in
set_option maxRecDepth 100000 in
theorem reuse_Histogram.calls (k : Nat) (A0 : Option Addr) (c0 : Nat) (l0 : List Int) (r1 : List Int) (r2 : Int) (w : World) (hr0 : Kd.C (Kd.int .u64) w A0 l0.length l0) (hc0 : l0.length ≤ c0) (h : reuse_Histogram.f k l0 = some (r1, r2)) :
    Calls Try.prog 90 #[.slice A0 l0.length c0] w fun e w' => ∃ v0_ : Value, e = .returned (.tuple #[v0_, .int .i64 r2]) ∧ Kd.R (Kd.int .i64) 3 w' w.heap.size (fun _ => True) v0_ r1 ∧ Below w.heap.size w w' := by
  have HR0 := Aside0.mk hr0
  have HC0 := Aside0.mk hc0
  clear hr0 hc0
  have HB := Aside0.mk (Below.refl w.heap.size w)
  have H : ((reuse_Distances.f l0).bind fun t116 => (if (t116.length : Int) = 0 then (some (([] : List Int), 0)) else ((slices_Max_int_int.f t116).bind fun t119 => (if 0 ≤ (wrap64 (t119 + 1)) then (if (wrap64 (t119 + 1) : Int).toNat ≤ 35184372088832 then (reuse_Histogram.l0 k (List.replicate (wrap64 (t119 + 1) : Int).toNat 0) 0 t116 (t116.length : Int) 0) else (none)) else (none))))) = some (r1, r2) := h
  clear h
  replace H := Option.bind_eq_some_iff.mp H
  obtain ⟨t116, A20, H⟩ := H
  replace H : (if (t116.length : Int) = 0 then (some (([] : List Int), 0)) else ((slices_Max_int_int.f t116).bind fun t119 => (if 0 ≤ (wrap64 (t119 + 1)) then (if (wrap64 (t119 + 1) : Int).toNat ≤ 35184372088832 then (reuse_Histogram.l0 k (List.replicate (wrap64 (t119 + 1) : Int).toNat 0) 0 t116 (t116.length : Int) 0) else (none)) else (none)))) = some (r1, r2) := H
  have A2 := Aside0.mk A20
  clear A20
  by_cases c3 : (t116.length : Int) = 0
  · rw [if_pos c3] at H
    have c3b0 : ((t116.length : Int) == 0) = true := beq_iff_eq.mpr c3
    have c3b1 : ((t116.length : Int) != 0) = false := bne_eq_false_iff_eq.mpr c3
    clear c3
    simp only [Option.some.injEq, Prod.mk.injEq] at H
    obtain ⟨rfl, rfl⟩ := H
    go_enter Try.func90, Try.ntmps90
    go_wp2_with (first | ((with_reducible refine gate_callee (f := 107) rfl ?_); refine goesL_ (some 10) rfl rfl Try.func107 (by kernel_rfl) rfl #[.slice A0 l0.length c0] rfl (by (try simp only [List.map_toArray, List.map_cons, List.map_nil]); first | done | rfl | (simp only [List.length_drop, List.length_take]; rfl)) ?_; (with_reducible refine (reuse_Distances.calls _ _ l0 t116 _ ?side1 ?side2 A2.out).mono ?_); (case side1 => repeat (first | exact HR0.out | (with_reducible refine Kd.C_alloc ?_ _) | (with_reducible refine Kd.C_drewN ?_ _) | (with_reducible refine Kd.C_drew ?_))); (case side2 => exact HC0.out); rintro e w4 ⟨v117, rfl, ho0, hb⟩; refine ⟨_, rfl, ?_⟩; have n0_ := Aside0.mk (Kd.R_lower ho0 (below_size (by repeat (first | (with_reducible first | exact HB.out | apply below_alloc | apply pw_below_drewN | apply below_drew1) | exact HB.out)))); have n1_ := Aside0.mk (below_step (by repeat (first | (with_reducible first | exact HB.out | apply below_alloc | apply pw_below_drewN | apply below_drew1) | exact HB.out)) hb); clear HB; have HO118 := n0_; have HB := n1_; clear n0_ n1_; (try clear hb); (try clear hb2); (try clear hk); (try clear hi); (try clear ho0); obtain ⟨Ao5, co5, eo5⟩ := Kd.R_slice HO118.out; subst eo5))
    go_ret2
    exact ⟨_, by first | rfl | (simp [errW_none, errW_some] <;> rfl) | (simp [*, errW_none, errW_some] <;> rfl), by first | exact Kd.R_nil _ _ _ _ _ | exact Kd.N_nil _ _ _ _ _ | exact Kd.V_nil _ _ _ _ _ | exact Kd.Q_nil _ _ _ _ _ | exact Kd.S_nil _ _ _ _ _, by repeat (first | (with_reducible first | exact HB.out | apply below_alloc | apply pw_below_drewN | apply below_drew1) | exact HB.out)⟩
  · rw [if_neg c3] at H
    have c3b0 : ((t116.length : Int) == 0) = false := beq_eq_false_iff_ne.mpr c3
    have c3b1 : ((t116.length : Int) != 0) = true := bne_iff_ne.mpr c3
    have c3b2 : ¬ (t116 = []) := fun h_ => c3 (by rw [h_]; rfl)
    replace H := Option.bind_eq_some_iff.mp H
    obtain ⟨t119, A60, H⟩ := H
    replace H : (if 0 ≤ (wrap64 (t119 + 1)) then (if (wrap64 (t119 + 1) : Int).toNat ≤ 35184372088832 then (reuse_Histogram.l0 k (List.replicate (wrap64 (t119 + 1) : Int).toNat 0) 0 t116 (t116.length : Int) 0) else (none)) else (none)) = some (r1, r2) := H
    have A6 := Aside0.mk A60
    clear A60
    obtain ⟨ji7, hji7⟩ : ∃ j_ : Int, (wrap64 (t119 + 1)) = j_ := ⟨_, rfl⟩
    replace H : (if 0 ≤ (ji7) then (if (ji7 : Int).toNat ≤ 35184372088832 then (reuse_Histogram.l0 k (List.replicate (ji7 : Int).toNat 0) 0 t116 (t116.length : Int) 0) else (none)) else (none)) = some (r1, r2) := by first | (rw [hji7] at H; exact H) | (simp only [hji7] at H ⊢; exact H)
    (try rw [hji7] at A2)
    (try rw [hji7] at A6)
    have hji7w : (IntKind.i64.wrap (t119 + 1)) = ji7 := (i64_w _).trans hji7
    by_cases c8 : 0 ≤ (ji7)
    · rw [if_pos c8] at H
      have c8b0 := eq_true c8
      have c8b1 : decide (0 ≤ (ji7)) = true := decide_eq_true c8
      clear c8
      by_cases c9 : (ji7 : Int).toNat ≤ 35184372088832
      · rw [if_pos c9] at H
        have c9b0 := eq_true c9
        have c9b1 : decide ((ji7 : Int).toNat ≤ 35184372088832) = true := decide_eq_true c9
        clear c9
        obtain ⟨y120, hy120⟩ : ∃ y_ : List Int, y_ = (List.replicate (ji7 : Int).toNat 0) := ⟨_, rfl⟩
        replace H : (reuse_Histogram.l0 k y120 0 t116 (t116.length : Int) 0) = some (r1, r2) := by first | (rw [hy120]; with_reducible exact H) | (have H2_ := (Option.bind_some _ _).symm.trans H; rw [hy120]; with_reducible exact H2_) | (have H2_ := (Option.bind_some _ _).symm.trans H; with_reducible exact H2_) | with_reducible exact H | (rw [hy120]; exact H) | exact H
        have Ny120 := Aside0.mk hy120
        clear hy120
        have H' := Aside0.mk H
        clear H
        go_enter Try.func90, Try.ntmps90
        go_wp2_with (first | ((with_reducible refine gate_callee (f := 107) rfl ?_); refine goesL_ (some 10) rfl rfl Try.func107 (by kernel_rfl) rfl #[.slice A0 l0.length c0] rfl (by (try simp only [List.map_toArray, List.map_cons, List.map_nil]); first | done | rfl | (simp only [List.length_drop, List.length_take]; rfl)) ?_; (with_reducible refine (reuse_Distances.calls _ _ l0 t116 _ ?side1 ?side2 A2.out).mono ?_); (case side1 => repeat (first | exact HR0.out | (with_reducible refine Kd.C_alloc ?_ _) | (with_reducible refine Kd.C_drewN ?_ _) | (with_reducible refine Kd.C_drew ?_))); (case side2 => exact HC0.out); rintro e w10 ⟨v117, rfl, ho0, hb⟩; refine ⟨_, rfl, ?_⟩; have n0_ := Aside0.mk (Kd.R_lower ho0 (below_size (by repeat (first | (with_reducible first | exact HB.out | apply below_alloc | apply pw_below_drewN | apply below_drew1) | exact HB.out)))); have n1_ := Aside0.mk (below_step (by repeat (first | (with_reducible first | exact HB.out | apply below_alloc | apply pw_below_drewN | apply below_drew1) | exact HB.out)) hb); clear HB; have HO118 := n0_; have HB := n1_; clear n0_ n1_; (try clear hb); (try clear hb2); (try clear hk); (try clear hi); (try clear ho0); obtain ⟨Ao11, co11, eo11⟩ := Kd.R_slice HO118.out; subst eo11) | ((with_reducible refine gate_callee (f := 108) rfl ?_); refine goesL_ (some 15) rfl rfl Try.func108 (by kernel_rfl) rfl #[.slice Ao11 t116.length co11] rfl (by (try simp only [List.map_toArray, List.map_cons, List.map_nil]); first | done | rfl | (simp only [List.length_drop, List.length_take]; rfl)) ?_; (with_reducible refine (slices_Max_int_int.calls _ _ t116 t119 _ ?side1 ?side2 A6.out).mono ?_); (case side1 => repeat (first | exact (Kd.R_reads' HO118.out).2.2 | (with_reducible refine Kd.C_alloc ?_ _) | (with_reducible refine Kd.C_drewN ?_ _) | (with_reducible refine Kd.C_drew ?_))); (case side2 => exact (Kd.R_reads' HO118.out).2.1); rintro e w' ⟨rfl, ⟨nd, rfl⟩⟩; refine ⟨_, rfl, ?_⟩) | ((with_reducible refine gate_dst (N := 17) rfl ?_); refine Kd.R_make (Kd.int .i64) _ 3 rfl (N := 17) rfl 72 _ _ rfl ji7 rfl rfl Try.underlying72 (.int .i64 0) 8 info3 rfl (by decide) (by omega) 0 (ok := fun _ => True) (okp := fun _ => True) rfl (fun _ hk => hk) trivial (of_decide_eq_true (by first | (with_reducible assumption) | assumption)) (Nat.le_trans (Nat.mul_le_mul_right _ (of_decide_eq_true (by first | (with_reducible assumption) | assumption) : ji7.toNat ≤ 35184372088832)) (by omega)) (Below.refl _ _) (Nat.le_refl _) ?_; intro v121 w12 ho13 hb hg_ hnew_; clear hg_ hnew_; (first | rw [← Ny120.out] at ho13 | (simp only [Int.reduceToNat] at ho13; rw [← Ny120.out] at ho13)); have n0_ := Aside0.mk (Kd.R_elder' (by (with_reducible repeat (first | apply Kd.R_alloc | apply Kd.R_drewN | apply Kd.R_drew)); exact HO118.out) (Kd.R_base ho13) hb); have n1_ := Aside0.mk (Kd.R_lower (Kd.R_new' ho13 (Kd.R_lt (by (with_reducible repeat (first | apply Kd.R_alloc | apply Kd.R_drewN | apply Kd.R_drew)); exact HO118.out))) (below_size (by repeat (first | (with_reducible first | exact HB.out | apply below_alloc | apply pw_below_drewN | apply below_drew1) | exact HB.out)))); have n2_ := Aside0.mk (below_step (by repeat (first | (with_reducible first | exact HB.out | apply below_alloc | apply pw_below_drewN | apply below_drew1) | exact HB.out)) hb); clear HO118; clear HB; have HO118 := n0_; have HO122 := n1_; have HB := n2_; clear n0_ n1_ n2_; clear hb ho13))
        go_loopg [6, 20] k (fun kq v6 v20 w' => ∃ (x5_1 : List Int) (x6_1 : Int) (x20_1 : Int), v6 = .int .i64 x6_1 ∧ v20 = .int .i64 x20_1 ∧ Aside0 (reuse_Histogram.l0 kq x5_1 x6_1 t116 (t116.length : Int) x20_1 = some (r1, r2)) ∧ Aside0 (kq ≤ k) ∧ Aside0 (Kd.R (Kd.int .i64) 3 w' w.heap.size (fun k_ => some k_ ≠ ((.slice Ao11 t116.length co11) : Value).ownBlock) v121 x5_1) ∧ Aside0 (Kd.R (Kd.int .i64) 3 w' w.heap.size (fun k_ => some k_ ≠ (v121 : Value).ownBlock) (.slice Ao11 t116.length co11) t116) ∧ Aside0 (Below w.heap.size w w'))
        case atStart => exact ⟨(y120), (0), (0), (by first | rfl | (simp; done) | (simp [*]; done)), (by first | rfl | (simp; done) | (simp [*]; done)), H', ⟨Nat.le_refl _⟩, ⟨by (with_reducible repeat (first | apply Kd.R_alloc | apply Kd.R_drewN | apply Kd.R_drew)); exact Kd.R_mono HO122.out (fun _ hk => hk.2)⟩, ⟨by (with_reducible repeat (first | apply Kd.R_alloc | apply Kd.R_drewN | apply Kd.R_drew)); exact Kd.R_mono HO118.out (fun _ hk => hk.2)⟩, ⟨by repeat (first | (with_reducible first | exact HB.out | apply below_alloc | apply pw_below_drewN | apply below_drew1) | exact HB.out)⟩⟩
        case round =>
          clear H'
          try clear c1
          try clear p2
          try clear c3
          try clear c3b0
          try clear c3b1
          try clear c3b2
          try clear p6
          try clear c8
          try clear c8b0
          try clear c8b1
          try clear c9
          try clear c9b0
          try clear c9b1
          try clear c10
          obtain ⟨x5_1, x6_1, x20_1, rfl, rfl, HA, HK1, HO_5, HO_18, HB⟩ := hrel
          cases gk with
          | zero => exact absurd HA.out (by simp [reuse_Histogram.l0])
          | succ k1 =>
            have H := HA.out
            clear HA
            simp only [reuse_Histogram.l0] at H
            by_cases c14 : x20_1 < (t116.length : Int)
            · rw [if_pos c14] at H
              have c14b0 : decide (x20_1 < (t116.length : Int)) = true := decide_eq_true c14
              clear c14
              by_cases c15 : 0 ≤ x20_1
              · rw [if_pos c15] at H
                have c15b0 : decide (0 ≤ x20_1) = true := decide_eq_true c15
                clear c15
                by_cases c16 : x20_1 < (t116.length : Int)
                · rw [if_pos c16] at H
                  have c16b0 : decide (x20_1 < (t116.length : Int)) = true := decide_eq_true c16
                  clear c16
                  by_cases c17 : (rd t116 x20_1) = (-1)
                  · rw [if_pos c17] at H
                    have c17b0 : ((rd t116 x20_1) == (-1)) = true := beq_iff_eq.mpr c17
                    have c17b1 : ((rd t116 x20_1) != (-1)) = false := bne_eq_false_iff_eq.mpr c17
                    clear c17
                    have H' := Aside0.mk H
                    clear H
                    have p123 : 0 ≤ (x20_1 : Int) := of_decide_eq_true (by first | (with_reducible assumption) | assumption)
                    have q123 : x20_1 < (t116.length : Int) := of_decide_eq_true (by first | (with_reducible assumption) | assumption)
                    obtain ⟨ad123, e123, hx123_0⟩ := Kd.at_int (Kd.R_reads' HO_18.out).2.2 x20_1 p123 q123
                    cases e123
                    replace p123 := eq_true p123
                    replace q123 := eq_true q123
                    go_wp2
                    go_roundg k1
                    case measure => have := HK1.out; omega
                    case rel => exact ⟨(x5_1), (wrap64 (x6_1 + 1)), (wrap64 (x20_1 + 1)), (by first | rfl | (simp; done) | (simp [*]; done)), (by first | rfl | (simp; done) | (simp [*]; done)), H', ⟨by have := HK1.out; omega⟩, ⟨by (with_reducible repeat (first | apply Kd.R_alloc | apply Kd.R_drewN | apply Kd.R_drew)); exact HO_5.out⟩, ⟨by (with_reducible repeat (first | apply Kd.R_alloc | apply Kd.R_drewN | apply Kd.R_drew)); exact HO_18.out⟩, ⟨by repeat (first | (with_reducible first | exact HB.out | apply below_alloc | apply pw_below_drewN | apply below_drew1) | exact HB.out)⟩⟩
                  · rw [if_neg c17] at H
                    have c17b0 : ((rd t116 x20_1) == (-1)) = false := beq_eq_false_iff_ne.mpr c17
                    have c17b1 : ((rd t116 x20_1) != (-1)) = true := bne_iff_ne.mpr c17
                    by_cases c18 : 0 ≤ (rd t116 x20_1)
                    · rw [if_pos c18] at H
                      have c18b0 : decide (0 ≤ (rd t116 x20_1)) = true := decide_eq_true c18
                      clear c18
                      by_cases c19 : (rd t116 x20_1) < (x5_1.length : Int)
                      · rw [if_pos c19] at H
                        have c19b0 : decide ((rd t116 x20_1) < (x5_1.length : Int)) = true := decide_eq_true c19
                        clear c19
                        obtain ⟨y125, hy125⟩ : ∃ y_ : List Int, y_ = (x5_1.set ((rd t116 x20_1) : Int).toNat (wrap64 ((rd x5_1 (rd t116 x20_1)) + 1))) := ⟨_, rfl⟩
                        replace H : (reuse_Histogram.l0 k1 y125 x6_1 t116 (t116.length : Int) (wrap64 (x20_1 + 1))) = some (r1, r2) := by first | (rw [hy125]; with_reducible exact H) | (have H2_ := (Option.bind_some _ _).symm.trans H; rw [hy125]; with_reducible exact H2_) | (have H2_ := (Option.bind_some _ _).symm.trans H; with_reducible exact H2_) | with_reducible exact H | (rw [hy125]; exact H) | exact H
                        have Ny125 := Aside0.mk hy125
                        clear hy125
                        have H' := Aside0.mk H
                        clear H
                        have p123 : 0 ≤ (x20_1 : Int) := of_decide_eq_true (by first | (with_reducible assumption) | assumption)
                        have q123 : x20_1 < (t116.length : Int) := of_decide_eq_true (by first | (with_reducible assumption) | assumption)
                        obtain ⟨ad123, e123, hx123_0⟩ := Kd.at_int (Kd.R_reads' HO_18.out).2.2 x20_1 p123 q123
                        cases e123
                        replace p123 := eq_true p123
                        replace q123 := eq_true q123
                        obtain ⟨Ao21, co21, eo21⟩ := Kd.R_slice HO_5.out
                        subst eo21
                        have p124 : 0 ≤ ((rd t116 x20_1) : Int) := of_decide_eq_true (by first | (with_reducible assumption) | assumption)
                        have q124 : (rd t116 x20_1) < (x5_1.length : Int) := of_decide_eq_true (by first | (with_reducible assumption) | assumption)
                        obtain ⟨ad124, e124, hx124_0⟩ := Kd.at_int (Kd.R_reads' HO_5.out).2.2 (rd t116 x20_1) p124 q124
                        cases e124
                        replace p124 := eq_true p124
                        replace q124 := eq_true q124
                        have p20 : 0 ≤ ((rd t116 x20_1) : Int) := of_decide_eq_true (by first | (with_reducible assumption) | assumption)
                        have q20 : ((rd t116 x20_1) : Int) < ((x5_1.length : Int) : Int) := of_decide_eq_true (by first | (with_reducible assumption) | assumption)
                        obtain ⟨go20, co20, eo20, gb20, gl20, cl20, HG20⟩ := Kd.R_form HO_5.out (by omega)
                        (first | cases eo20 | (injection eo20 with ea_ en_ ec_; (first | subst ea_ | (injection ea_ with ea_; subst ea_)); subst ec_; clear en_))
                        have GB20 := Aside0.mk gb20
                        have GG20 := Aside0.mk HG20
                        clear gb20 gl20 HG20
                        (first | simp only [add_plain] at hx124_0 | skip)
                        obtain ⟨hx20_0, hf20_0⟩ := Kd.R_celln 0 HO_5.out ((rd t116 x20_1) : Int) p20 q20
                        replace p20 := eq_true p20
                        replace q20 := eq_true q20
                        have HP22 := Kd.R_putg HO_5.out ((rd t116 x20_1) : Int) (wrap64 ((rd x5_1 (rd t116 x20_1)) + 1))
                        go_wp2_with (first | ((with_reducible refine gate_store (t := 3) (p := 33) rfl ?_); refine store_event (t := 3) (p := 33) (v := ?vo_w23) (w1 := (wr.setCell ⟨go20, ((rd t116 x20_1) : Int).toNat, none⟩ (.int .i64 (wrap64 ((rd x5_1 (rd t116 x20_1)) + 1))))) ?hg ?ho ?hn ?hr ?_; (case ho => rfl); (case hg => rfl); (case hn => rfl); (case hr => first | (go_simp; done) | (go_simp; rfl)); intro w23 hw; have hg : wr.grownBy w23 (some go20) := (by rw [hw]; exact HP22.2); have hp_ : Kd.R (Kd.int .i64) 3 w23 w.heap.size (fun k_ => some k_ ≠ (.slice (some ad123) t116.length co11 : Value).ownBlock) (.slice (some ⟨go20, 0, none⟩) x5_1.length co21) y125 := (by rw [hw, Ny125.out]; exact HP22.1); clear HP22; have n0_ := Aside0.mk (hp_); have n1_ := Aside0.mk (Kd.R_after (v := (.slice (some ⟨go20, 0, none⟩) x5_1.length co21)) (v1 := (.slice (some ⟨go20, 0, none⟩) x5_1.length co21)) (ok := (fun _ => True)) (by (with_reducible repeat (first | apply Kd.R_alloc | apply Kd.R_drewN | apply Kd.R_drew)); exact Kd.R_mono HO_18.out (fun _ hk => ⟨trivial, hk⟩)) hg (.inl rfl)); have n2_ := Aside0.mk ((by rw [hw]; exact below_set (HB.out) GB20.out : Below w.heap.size w w23)); clear HO_5; clear HO_18; clear HB; have HO_5 := n0_; have HO_18 := n1_; have HB := n2_; clear n0_ n1_ n2_; clear hg hw hp_))
                        go_roundg k1
                        case measure => have := HK1.out; omega
                        case rel => exact ⟨(y125), (x6_1), (wrap64 (x20_1 + 1)), (by first | rfl | (simp; done) | (simp [*]; done)), (by first | rfl | (simp; done) | (simp [*]; done)), H', ⟨by have := HK1.out; omega⟩, ⟨by (with_reducible repeat (first | apply Kd.R_alloc | apply Kd.R_drewN | apply Kd.R_drew)); exact HO_5.out⟩, ⟨by (with_reducible repeat (first | apply Kd.R_alloc | apply Kd.R_drewN | apply Kd.R_drew)); exact Kd.R_mono HO_18.out (fun _ hk => hk.2)⟩, ⟨by repeat (first | (with_reducible first | exact HB.out | apply below_alloc | apply pw_below_drewN | apply below_drew1) | exact HB.out)⟩⟩
                      · rw [if_neg c19] at H
                        exact absurd H (by simp)
                    · rw [if_neg c18] at H
                      exact absurd H (by simp)
                · rw [if_neg c16] at H
                  exact absurd H (by simp)
              · rw [if_neg c15] at H
                exact absurd H (by simp)
            · rw [if_neg c14] at H
              have c14b0 : decide (x20_1 < (t116.length : Int)) = false := decide_eq_false c14
              clear c14
              simp only [Option.some.injEq, Prod.mk.injEq] at H
              obtain ⟨rfl, rfl⟩ := H
              go_wp2
              go_ret2
              exact ⟨_, by first | rfl | (simp [errW_none, errW_some] <;> rfl) | (simp only [← hji7]; first | rfl | (simp [errW_none, errW_some] <;> rfl)) | (simp [*, errW_none, errW_some] <;> rfl), by (with_reducible repeat (first | apply Kd.R_alloc | apply Kd.R_drewN | apply Kd.R_drew)); exact Kd.R_mono HO_5.out (fun _ hk => trivial), by repeat (first | (with_reducible first | exact HB.out | apply below_alloc | apply pw_below_drewN | apply below_drew1) | exact HB.out)⟩
      · rw [if_neg c9] at H
        exact absurd H (by simp)
    · rw [if_neg c8] at H
      exact absurd H (by simp)

end Go.Proofs.Ytdjbpdahdakfjaa.PCurve
