-- Written by a program of this session (a turned copy of the kit's printer, texts of this session's own for functions that it does not take).
import Derived.Test.YtdjbpdahdakfjaaPLookx0
import Derived.Test.YtdjbpdahdakfjaaPLookx4
namespace Go.Proofs.Ytdjbpdahdakfjaa.PLook
open Go.RowKit Go.Proofs.YtdjbpdahdakfjaaH Go.Proofs.YtdjbpdahdakfjaaW.PrintWords Go.Proofs.YtdjbpdahdakfjaaW.PrintLast Go.Proofs.YtdjbpdahdakfjaaW.PrintMore
attribute [local go_sem] max2_int min2_int max_two min_two max_three min_three max_four min_four   -- for this text's walks alone
set_option linter.unusedVariables false
set_option linter.unusedSimpArgs false


/-! ### slices_partialInsertionSortOrdered_uint64: function 133 -/
-- by hand
set_option maxRecDepth 100000 in
set_option maxHeartbeats 16000000 in
theorem slices_partialInsertionSortOrdered_uint64.calls {A off cap a b : Nat} {T : TypeId} {C : Array Value} {d : Array Int} {w : World} (hD : Srt.Dat w A off T C d) (hab : a < b) (hb : b ≤ d.size) (hsz : d.size ≤ 1099511627776) :
    Calls Try.prog 133 #[.slice (some ⟨A, off, none⟩) d.size cap, .int .i64 (a : Int), .int .i64 (b : Int)] w fun e w' => e = .returned (.bool (Go.Sort.partialInsertionSort Go.Sort.ltInt d a b).2) ∧ Srt.Dat w' A off T C (Go.Sort.partialInsertionSort Go.Sort.ltInt d a b).1 ∧ Srt.Only A w w' := by
  have HD := Aside0.mk hD
  obtain ⟨n, hn⟩ : ∃ n, n = d.size := ⟨_, rfl⟩
  have HN := Aside0.mk hn
  rw [← hn] at hb hsz ⊢
  clear hD hn
  have e1 : wrap64 ((a : Int) + 1) = (a : Int) + 1 := by unfold wrap64; omega
  have e2 : wrap64 ((b : Int) - (a : Int)) = (b : Int) - (a : Int) := by unfold wrap64; omega
  go_enter Try.func133, Try.ntmps133
  go_wp2
  go_loopg [7, 8, 9, 10] 5 (fun kq v7 v8 v9 v10 w' => ∃ (i : Nat) (dk : Array Int), v7 = .int .i64 (i : Int) ∧ v8 = .int .i64 (5 - (kq : Int)) ∧ kq ≤ 5 ∧ a < i ∧ i ≤ b ∧ Aside0 (dk.size = n) ∧ Aside0 (Srt.Dat w' A off T C dk) ∧ Aside0 (Srt.Only A w w') ∧ Aside0 (Go.Sort.partialIns Go.Sort.ltInt a b kq i dk = Go.Sort.partialInsertionSort Go.Sort.ltInt d a b))
  case atStart => exact ⟨a + 1, d, by go_num, rfl, Nat.le_refl _, by omega, by omega, ⟨HN.out.symm⟩, HD, ⟨Mut.refl _ _⟩, ⟨rfl⟩⟩
  case round =>
    obtain ⟨i, dk, rfl, rfl, hk5, hai, hib, HS, HDk, HO, HE⟩ := hrel
    cases gk with
    | zero =>
      go_wp2
      go_ret
      have := HE.out
      simp only [Go.Sort.partialIns] at this
      rw [← this]
      exact ⟨rfl, HDk.out, HO.out⟩
    | succ s =>
      have hs4 : (s : Int) ≤ 4 := by omega
      rw [show (5 : Int) - ((s + 1 : Nat) : Int) = 4 - (s : Int) by omega]
      have b5 : decide ((4 : Int) - (s : Int) < 5) = true := decide_eq_true (by omega)
      go_wp2
      go_loopg [7] (b - i) (fun kj v7 w' => ∃ (j : Nat), v7 = .int .i64 (j : Int) ∧ j + kj = b ∧ i ≤ j ∧ Aside0 (Srt.Dat w' A off T C dk) ∧ Aside0 (Srt.Only A w w') ∧ Aside0 (Go.Sort.scanSorted Go.Sort.ltInt dk b j = Go.Sort.scanSorted Go.Sort.ltInt dk b i))
      case atStart => exact ⟨i, rfl, by omega, Nat.le_refl _, HDk, HO, ⟨rfl⟩⟩
      case round =>
        obtain ⟨j, rfl, hkj, hij, HDj, HOj, HEj⟩ := hrel
        by_cases hjb : j < b
        · obtain ⟨k1, rfl⟩ : ∃ k1, gk = k1 + 1 := ⟨gk - 1, by omega⟩
          have hX := HDj.out.cell (i := j) (by rw [HS.out]; omega)
          have hY := HDj.out.cell (i := j - 1) (by rw [HS.out]; omega)
          have hFX := fun k => HDj.out.frozen k
          obtain ⟨X, eX⟩ : ∃ x, x = dk[j]! := ⟨_, rfl⟩
          obtain ⟨Y, eY⟩ : ∃ x, x = dk[j - 1]! := ⟨_, rfl⟩
          rw [← eX] at hX
          rw [← eY] at hY
          have EX := Aside0.mk eX
          have EY := Aside0.mk eY
          clear eX eY
          have bj : decide ((j : Int) < (b : Int)) = true := decide_eq_true (by omega)
          have j1 : (j : Int) - 1 < (n : Int) := by omega
          have j2 : (j : Int) < (n : Int) := by omega
          have j3 : (0 : Int) ≤ (j : Int) - 1 := by omega
          have e3 : IntKind.i64.wrap ((j : Int) - 1) = (j : Int) - 1 := by rw [IntKind.wrap_i64]; omega
          have t3 : ((j : Int) - 1).toNat = j - 1 := by omega
          cases hl : Go.Sort.ltInt X Y with
          | false =>
            go_wp2
            go_quiet ((go_at_call 134; exact Calls.quiet_of_same (cmp_Less_uint64.calls _ _ _)))
            go_wp2
            go_roundg k1
            case measure => omega
            case rel => exact ⟨j + 1, by go_num, by omega, by omega, ⟨HDj.out.drewN _⟩, ⟨HOj.out.drewN _⟩, ⟨by rw [← HEj.out, Srt.scan_go hjb (by rw [← EX.out, ← EY.out]; exact hl)]⟩⟩
          | true =>
            have HSC := Aside0.mk (show Go.Sort.scanSorted Go.Sort.ltInt dk b i = j by rw [← HEj.out, Srt.scan_stop (by rw [← EX.out, ← EY.out]; exact hl)])
            have bne : ((j : Int) == (b : Int)) = false := beq_eq_false_iff_ne.2 (by omega)
            by_cases h50 : b - a < 50
            · have b6 : decide ((b : Int) - (a : Int) < 50) = true := decide_eq_true (by omega)
              go_wp2
              go_quiet ((go_at_call 134; exact Calls.quiet_of_same (cmp_Less_uint64.calls _ _ _)))
              go_wp2
              go_ret
              rw [← HE.out, Srt.pi_small HSC.out (by omega) h50]
              exact ⟨rfl, HDj.out.drewN _, HOj.out.drewN _⟩
            · have b6 : decide ((b : Int) - (a : Int) < 50) = false := decide_eq_false (by omega)
              go_wp2_with fail
              go_quiet ((go_at_call 134; exact Calls.quiet_of_same (cmp_Less_uint64.calls _ _ _)))
              go_wp2_with fail
              have hD1 := HDj.out.drewN nq
              have hO1 := HOj.out.drewN nq
              generalize wr.drewN nq = W1 at hD1 hO1 ⊢
              have HD1 := Aside0.mk hD1
              have HO1 := Aside0.mk hO1
              clear hD1 hO1
              have hX2 := HD1.out.cell (i := j) (by rw [HS.out]; omega)
              have hY2 := HD1.out.cell (i := j - 1) (by rw [HS.out]; omega)
              have hFX2 := fun k => HD1.out.frozen k
              rw [← EX.out] at hX2
              rw [← EY.out] at hY2
              clear hX hY hFX
              go_wp2_with fail
              go_region
              have hsw := (HD1.out.swap (i := j) (j := j - 1) (by rw [HS.out]; omega) (by rw [HS.out]; omega)).drew
              rw [← EX.out, ← EY.out] at hsw
              have hso := (Srt.only_swap HO1.out (off + (j)) (off + (j - 1)) (.int .u64 Y) (.int .u64 X)).drew
              clear hX2 hY2 hFX2
              have HDs := Aside0.mk hsw
              have HOs := Aside0.mk hso
              clear hsw hso
              have e7 : wrap64 ((j : Int) - (a : Int)) = (j : Int) - (a : Int) := by unfold wrap64; omega
              have e8 : wrap64 ((b : Int) - (j : Int)) = (b : Int) - (j : Int) := by unfold wrap64; omega
              obtain ⟨d1, hd1⟩ : ∃ d1, d1 = Go.Sort.swp dk j (j - 1) := ⟨_, rfl⟩
              have HS1 := Aside0.mk (show d1.size = n by rw [hd1, Srt.swp_size, HS.out])
              rw [← hd1] at HDs
              have HD0 := Aside0.mk hd1
              clear hd1
              by_cases ha2 : 2 ≤ j - a
              · have b7 : decide ((2 : Int) ≤ (j : Int) - (a : Int)) = true := decide_eq_true (by omega)
                go_wp2_with fail
                go_loopg [9] (j - 1) (fun kj v9 w' => ∃ (dm : Array Int), v9 = .int .i64 (kj : Int) ∧ kj ≤ j - 1 ∧ Aside0 (dm.size = n) ∧ Aside0 (Srt.Dat w' A off T C dm) ∧ Aside0 (Srt.Only A w w') ∧ Aside0 (Go.Sort.shiftDown Go.Sort.ltInt kj dm = Go.Sort.shiftDown Go.Sort.ltInt (j - 1) d1))
                case atStart => exact ⟨d1, by congr 1; omega, Nat.le_refl _, HS1, HDs, HOs, ⟨rfl⟩⟩
                case round =>
                  obtain ⟨dm, rfl, hkm, HSm, HDm, HOm, HEm⟩ := hrel
                  cases gk with
                  | zero =>
                    rw [show ((0 : Nat) : Int) = 0 from rfl]
                    by_cases hb2 : 2 ≤ b - j
                    · have b8 : decide ((2 : Int) ≤ (b : Int) - (j : Int)) = true := decide_eq_true (by omega)
                      go_wp2_with fail
                      go_loopg [10] (b - (j + 1)) (fun kj v10 w' => ∃ (m : Nat) (du : Array Int), v10 = .int .i64 (m : Int) ∧ m + kj = b ∧ j < m ∧ Aside0 (du.size = n) ∧ Aside0 (Srt.Dat w' A off T C du) ∧ Aside0 (Srt.Only A w w') ∧ Aside0 (Go.Sort.shiftUp Go.Sort.ltInt b m du = Go.Sort.shiftUp Go.Sort.ltInt b (j + 1) dm))
                      case atStart => exact ⟨j + 1, dm, by go_num, by omega, by omega, HSm, HDm, HOm, ⟨rfl⟩⟩
                      case round =>
                        obtain ⟨m3, du, rfl, hkm3, hjm, HSu, HDu, HOu, HEu⟩ := hrel
                        by_cases hmb : m3 < b
                        · have hX3 := HDu.out.cell (i := m3) (by rw [HSu.out]; omega)
                          have hY3 := HDu.out.cell (i := m3 - 1) (by rw [HSu.out]; omega)
                          have hFX3 := fun k => HDu.out.frozen k
                          obtain ⟨X3, eX3⟩ : ∃ x, x = du[m3]! := ⟨_, rfl⟩
                          obtain ⟨Y3, eY3⟩ : ∃ x, x = du[m3 - 1]! := ⟨_, rfl⟩
                          rw [← eX3] at hX3
                          rw [← eY3] at hY3
                          have EX3 := Aside0.mk eX3
                          have EY3 := Aside0.mk eY3
                          clear eX3 eY3
                          obtain ⟨k3, rfl⟩ : ∃ k3, gk = k3 + 1 := ⟨gk - 1, by omega⟩
                          have bm3 : decide ((m3 : Int) < (b : Int)) = true := decide_eq_true (by omega)
                          have m31 : (m3 : Int) - 1 < (n : Int) := by omega
                          have m32 : (m3 : Int) < (n : Int) := by omega
                          have m33 : (0 : Int) ≤ (m3 : Int) - 1 := by omega
                          have e93 : IntKind.i64.wrap ((m3 : Int) - 1) = (m3 : Int) - 1 := by rw [IntKind.wrap_i64]; omega
                          have t93 : ((m3 : Int) - 1).toNat = m3 - 1 := by omega
                          cases hl3 : Go.Sort.ltInt X3 Y3 with
                          | true =>
                            go_wp2_with fail
                            go_quiet ((go_at_call 134; exact Calls.quiet_of_same (cmp_Less_uint64.calls _ _ _)))
                            go_wp2_with fail
                            have hD3 := HDu.out.drewN nq
                            have hO3 := HOu.out.drewN nq
                            generalize wr.drewN nq = W3 at hD3 hO3 ⊢
                            have HD3 := Aside0.mk hD3
                            have HO3 := Aside0.mk hO3
                            clear hD3 hO3
                            have hX32 := HD3.out.cell (i := m3) (by rw [HSu.out]; omega)
                            have hY32 := HD3.out.cell (i := m3 - 1) (by rw [HSu.out]; omega)
                            have hFX32 := fun k => HD3.out.frozen k
                            rw [← EX3.out] at hX32
                            rw [← EY3.out] at hY32
                            clear hX3 hY3 hFX3
                            go_wp2_with fail
                            go_region
                            have hsw := (HD3.out.swap (i := m3) (j := m3 - 1) (by rw [HSu.out]; omega) (by rw [HSu.out]; omega)).drew
                            rw [← EX3.out, ← EY3.out] at hsw
                            have hso := (Srt.only_swap HO3.out (off + (m3)) (off + (m3 - 1)) (.int .u64 Y3) (.int .u64 X3)).drew
                            clear hX32 hY32 hFX32
                            go_wp2
                            go_roundg k3
                            case measure => omega
                            case rel => exact ⟨m3 + 1, Go.Sort.swp du m3 (m3 - 1), by go_num, by omega, by omega, ⟨by rw [Srt.swp_size, HSu.out]⟩, ⟨hsw⟩, ⟨hso⟩, ⟨by rw [← HEu.out, Srt.up_go hmb (by rw [← EX3.out, ← EY3.out]; exact hl3)]⟩⟩
                          | false =>
                            go_wp2
                            go_quiet ((go_at_call 134; exact Calls.quiet_of_same (cmp_Less_uint64.calls _ _ _)))
                            go_wp2
                            go_roundg s
                            case measure => omega
                            case rel => exact ⟨j, du, rfl, by congr 1; omega, by omega, by omega, by omega, HSu, ⟨HDu.out.drewN _⟩, ⟨HOu.out.drewN _⟩, ⟨by rw [← HE.out, Srt.pi_go (D := dm) HSC.out (by omega) h50 (by rw [if_pos (by omega), ← HD0.out, ← HEm.out]; rfl) (by rw [if_pos (by omega), ← HEu.out, Srt.up_stop (by rw [← EX3.out, ← EY3.out]; exact hl3)])]⟩⟩
                        · have bm3 : decide ((m3 : Int) < (b : Int)) = false := decide_eq_false (by omega)
                          go_wp2
                          go_roundg s
                          case measure => omega
                          case rel => exact ⟨j, du, rfl, by congr 1; omega, by omega, by omega, by omega, HSu, HDu, HOu, ⟨by rw [← HE.out, Srt.pi_go (D := dm) HSC.out (by omega) h50 (by rw [if_pos (by omega), ← HD0.out, ← HEm.out]; rfl) (by rw [if_pos (by omega), ← HEu.out, Srt.up_end (by omega)])]⟩⟩
                    · have b8 : decide ((2 : Int) ≤ (b : Int) - (j : Int)) = false := decide_eq_false (by omega)
                      go_wp2_with fail
                      go_roundg s
                      case measure => omega
                      case rel => exact ⟨j, dm, rfl, by congr 1; omega, by omega, by omega, by omega, HSm, HDm, HOm, ⟨by rw [← HE.out, Srt.pi_go (D := dm) HSC.out (by omega) h50 (by rw [if_pos (by omega), ← HD0.out, ← HEm.out]; rfl) (by rw [if_neg (by omega)])]⟩⟩
                  | succ m =>
                    rw [show ((m + 1 : Nat) : Int) = (m : Int) + 1 from rfl]
                    have hX4 := HDm.out.cell (i := m + 1) (by rw [HSm.out]; omega)
                    have hY4 := HDm.out.cell (i := m) (by rw [HSm.out]; omega)
                    have hFX4 := fun k => HDm.out.frozen k
                    obtain ⟨X4, eX4⟩ : ∃ x, x = dm[m + 1]! := ⟨_, rfl⟩
                    obtain ⟨Y4, eY4⟩ : ∃ x, x = dm[m]! := ⟨_, rfl⟩
                    rw [← eX4] at hX4
                    rw [← eY4] at hY4
                    have EX4 := Aside0.mk eX4
                    have EY4 := Aside0.mk eY4
                    clear eX4 eY4
                    have bm : decide ((1 : Int) ≤ (m : Int) + 1) = true := decide_eq_true (by omega)
                    have m1 : (m : Int) + 1 < (n : Int) := by omega
                    have m3 : (0 : Int) ≤ (m : Int) := by omega
                    have e9 : IntKind.i64.wrap ((m : Int) + 1 - 1) = (m : Int) := by rw [IntKind.wrap_i64]; omega
                    cases hl4 : Go.Sort.ltInt X4 Y4 with
                    | true =>
                      go_wp2_with fail
                      go_quiet ((go_at_call 134; exact Calls.quiet_of_same (cmp_Less_uint64.calls _ _ _)))
                      go_wp2_with fail
                      have hD4 := HDm.out.drewN nq
                      have hO4 := HOm.out.drewN nq
                      generalize wr.drewN nq = W4 at hD4 hO4 ⊢
                      have HD4 := Aside0.mk hD4
                      have HO4 := Aside0.mk hO4
                      clear hD4 hO4
                      have hX42 := HD4.out.cell (i := m + 1) (by rw [HSm.out]; omega)
                      have hY42 := HD4.out.cell (i := m) (by rw [HSm.out]; omega)
                      have hFX42 := fun k => HD4.out.frozen k
                      rw [← EX4.out] at hX42
                      rw [← EY4.out] at hY42
                      clear hX4 hY4 hFX4
                      go_wp2_with fail
                      go_region
                      have hsw := (HD4.out.swap (i := m + 1) (j := m) (by rw [HSm.out]; omega) (by rw [HSm.out]; omega)).drew
                      rw [← EX4.out, ← EY4.out] at hsw
                      have hso := (Srt.only_swap HO4.out (off + (m + 1)) (off + (m)) (.int .u64 Y4) (.int .u64 X4)).drew
                      clear hX42 hY42 hFX42
                      go_wp2_with fail
                      go_roundg m
                      case measure => omega
                      case rel => exact ⟨Go.Sort.swp dm (m + 1) m, by go_num, by omega, ⟨by rw [Srt.swp_size, HSm.out]⟩, ⟨hsw⟩, ⟨hso⟩, ⟨by rw [← HEm.out, Srt.down_go (by rw [← EX4.out, ← EY4.out]; exact hl4)]⟩⟩
                    | false =>
                      by_cases hb2 : 2 ≤ b - j
                      · have b8 : decide ((2 : Int) ≤ (b : Int) - (j : Int)) = true := decide_eq_true (by omega)
                        go_wp2_with fail
                        go_quiet ((go_at_call 134; exact Calls.quiet_of_same (cmp_Less_uint64.calls _ _ _)))
                        go_wp2_with fail
                        have hD5 := HDm.out.drewN nq
                        have hO5 := HOm.out.drewN nq
                        generalize wr.drewN nq = W5 at hD5 hO5 ⊢
                        have HD5 := Aside0.mk hD5
                        have HO5 := Aside0.mk hO5
                        clear hD5 hO5
                        go_loopg [10] (b - (j + 1)) (fun kj v10 w' => ∃ (m : Nat) (du : Array Int), v10 = .int .i64 (m : Int) ∧ m + kj = b ∧ j < m ∧ Aside0 (du.size = n) ∧ Aside0 (Srt.Dat w' A off T C du) ∧ Aside0 (Srt.Only A w w') ∧ Aside0 (Go.Sort.shiftUp Go.Sort.ltInt b m du = Go.Sort.shiftUp Go.Sort.ltInt b (j + 1) dm))
                        case atStart => exact ⟨j + 1, dm, by go_num, by omega, by omega, HSm, HD5, HO5, ⟨rfl⟩⟩
                        case round =>
                          obtain ⟨m3, du, rfl, hkm3, hjm, HSu, HDu, HOu, HEu⟩ := hrel
                          by_cases hmb : m3 < b
                          · have hX3 := HDu.out.cell (i := m3) (by rw [HSu.out]; omega)
                            have hY3 := HDu.out.cell (i := m3 - 1) (by rw [HSu.out]; omega)
                            have hFX3 := fun k => HDu.out.frozen k
                            obtain ⟨X3, eX3⟩ : ∃ x, x = du[m3]! := ⟨_, rfl⟩
                            obtain ⟨Y3, eY3⟩ : ∃ x, x = du[m3 - 1]! := ⟨_, rfl⟩
                            rw [← eX3] at hX3
                            rw [← eY3] at hY3
                            have EX3 := Aside0.mk eX3
                            have EY3 := Aside0.mk eY3
                            clear eX3 eY3
                            obtain ⟨k3, rfl⟩ : ∃ k3, gk = k3 + 1 := ⟨gk - 1, by omega⟩
                            have bm3 : decide ((m3 : Int) < (b : Int)) = true := decide_eq_true (by omega)
                            have m31 : (m3 : Int) - 1 < (n : Int) := by omega
                            have m32 : (m3 : Int) < (n : Int) := by omega
                            have m33 : (0 : Int) ≤ (m3 : Int) - 1 := by omega
                            have e93 : IntKind.i64.wrap ((m3 : Int) - 1) = (m3 : Int) - 1 := by rw [IntKind.wrap_i64]; omega
                            have t93 : ((m3 : Int) - 1).toNat = m3 - 1 := by omega
                            cases hl3 : Go.Sort.ltInt X3 Y3 with
                            | true =>
                              go_wp2_with fail
                              go_quiet ((go_at_call 134; exact Calls.quiet_of_same (cmp_Less_uint64.calls _ _ _)))
                              go_wp2_with fail
                              have hD3 := HDu.out.drewN nq
                              have hO3 := HOu.out.drewN nq
                              generalize wr.drewN nq = W3 at hD3 hO3 ⊢
                              have HD3 := Aside0.mk hD3
                              have HO3 := Aside0.mk hO3
                              clear hD3 hO3
                              have hX32 := HD3.out.cell (i := m3) (by rw [HSu.out]; omega)
                              have hY32 := HD3.out.cell (i := m3 - 1) (by rw [HSu.out]; omega)
                              have hFX32 := fun k => HD3.out.frozen k
                              rw [← EX3.out] at hX32
                              rw [← EY3.out] at hY32
                              clear hX3 hY3 hFX3
                              go_wp2_with fail
                              go_region
                              have hsw := (HD3.out.swap (i := m3) (j := m3 - 1) (by rw [HSu.out]; omega) (by rw [HSu.out]; omega)).drew
                              rw [← EX3.out, ← EY3.out] at hsw
                              have hso := (Srt.only_swap HO3.out (off + (m3)) (off + (m3 - 1)) (.int .u64 Y3) (.int .u64 X3)).drew
                              clear hX32 hY32 hFX32
                              go_wp2
                              go_roundg k3
                              case measure => omega
                              case rel => exact ⟨m3 + 1, Go.Sort.swp du m3 (m3 - 1), by go_num, by omega, by omega, ⟨by rw [Srt.swp_size, HSu.out]⟩, ⟨hsw⟩, ⟨hso⟩, ⟨by rw [← HEu.out, Srt.up_go hmb (by rw [← EX3.out, ← EY3.out]; exact hl3)]⟩⟩
                            | false =>
                              go_wp2
                              go_quiet ((go_at_call 134; exact Calls.quiet_of_same (cmp_Less_uint64.calls _ _ _)))
                              go_wp2
                              go_roundg s
                              case measure => omega
                              case rel => exact ⟨j, du, rfl, by congr 1; omega, by omega, by omega, by omega, HSu, ⟨HDu.out.drewN _⟩, ⟨HOu.out.drewN _⟩, ⟨by rw [← HE.out, Srt.pi_go (D := dm) HSC.out (by omega) h50 (by rw [if_pos (by omega), ← HD0.out, ← HEm.out, Srt.down_stop (by rw [← EX4.out, ← EY4.out]; exact hl4)]) (by rw [if_pos (by omega), ← HEu.out, Srt.up_stop (by rw [← EX3.out, ← EY3.out]; exact hl3)])]⟩⟩
                          · have bm3 : decide ((m3 : Int) < (b : Int)) = false := decide_eq_false (by omega)
                            go_wp2
                            go_roundg s
                            case measure => omega
                            case rel => exact ⟨j, du, rfl, by congr 1; omega, by omega, by omega, by omega, HSu, HDu, HOu, ⟨by rw [← HE.out, Srt.pi_go (D := dm) HSC.out (by omega) h50 (by rw [if_pos (by omega), ← HD0.out, ← HEm.out, Srt.down_stop (by rw [← EX4.out, ← EY4.out]; exact hl4)]) (by rw [if_pos (by omega), ← HEu.out, Srt.up_end (by omega)])]⟩⟩
                      · have b8 : decide ((2 : Int) ≤ (b : Int) - (j : Int)) = false := decide_eq_false (by omega)
                        go_wp2_with fail
                        go_quiet ((go_at_call 134; exact Calls.quiet_of_same (cmp_Less_uint64.calls _ _ _)))
                        go_wp2_with fail
                        have hD5 := HDm.out.drewN nq
                        have hO5 := HOm.out.drewN nq
                        generalize wr.drewN nq = W5 at hD5 hO5 ⊢
                        have HD5 := Aside0.mk hD5
                        have HO5 := Aside0.mk hO5
                        clear hD5 hO5
                        go_roundg s
                        case measure => omega
                        case rel => exact ⟨j, dm, rfl, by congr 1; omega, by omega, by omega, by omega, HSm, HD5, HO5, ⟨by rw [← HE.out, Srt.pi_go (D := dm) HSC.out (by omega) h50 (by rw [if_pos (by omega), ← HD0.out, ← HEm.out, Srt.down_stop (by rw [← EX4.out, ← EY4.out]; exact hl4)]) (by rw [if_neg (by omega)])]⟩⟩
              · have b7 : decide ((2 : Int) ≤ (j : Int) - (a : Int)) = false := decide_eq_false (by omega)
                by_cases hb2 : 2 ≤ b - j
                · have b8 : decide ((2 : Int) ≤ (b : Int) - (j : Int)) = true := decide_eq_true (by omega)
                  go_wp2_with fail
                  go_loopg [10] (b - (j + 1)) (fun kj v10 w' => ∃ (m : Nat) (du : Array Int), v10 = .int .i64 (m : Int) ∧ m + kj = b ∧ j < m ∧ Aside0 (du.size = n) ∧ Aside0 (Srt.Dat w' A off T C du) ∧ Aside0 (Srt.Only A w w') ∧ Aside0 (Go.Sort.shiftUp Go.Sort.ltInt b m du = Go.Sort.shiftUp Go.Sort.ltInt b (j + 1) d1))
                  case atStart => exact ⟨j + 1, d1, by go_num, by omega, by omega, HS1, HDs, HOs, ⟨rfl⟩⟩
                  case round =>
                    obtain ⟨m3, du, rfl, hkm3, hjm, HSu, HDu, HOu, HEu⟩ := hrel
                    by_cases hmb : m3 < b
                    · have hX3 := HDu.out.cell (i := m3) (by rw [HSu.out]; omega)
                      have hY3 := HDu.out.cell (i := m3 - 1) (by rw [HSu.out]; omega)
                      have hFX3 := fun k => HDu.out.frozen k
                      obtain ⟨X3, eX3⟩ : ∃ x, x = du[m3]! := ⟨_, rfl⟩
                      obtain ⟨Y3, eY3⟩ : ∃ x, x = du[m3 - 1]! := ⟨_, rfl⟩
                      rw [← eX3] at hX3
                      rw [← eY3] at hY3
                      have EX3 := Aside0.mk eX3
                      have EY3 := Aside0.mk eY3
                      clear eX3 eY3
                      obtain ⟨k3, rfl⟩ : ∃ k3, gk = k3 + 1 := ⟨gk - 1, by omega⟩
                      have bm3 : decide ((m3 : Int) < (b : Int)) = true := decide_eq_true (by omega)
                      have m31 : (m3 : Int) - 1 < (n : Int) := by omega
                      have m32 : (m3 : Int) < (n : Int) := by omega
                      have m33 : (0 : Int) ≤ (m3 : Int) - 1 := by omega
                      have e93 : IntKind.i64.wrap ((m3 : Int) - 1) = (m3 : Int) - 1 := by rw [IntKind.wrap_i64]; omega
                      have t93 : ((m3 : Int) - 1).toNat = m3 - 1 := by omega
                      cases hl3 : Go.Sort.ltInt X3 Y3 with
                      | true =>
                        go_wp2_with fail
                        go_quiet ((go_at_call 134; exact Calls.quiet_of_same (cmp_Less_uint64.calls _ _ _)))
                        go_wp2_with fail
                        have hD3 := HDu.out.drewN nq
                        have hO3 := HOu.out.drewN nq
                        generalize wr.drewN nq = W3 at hD3 hO3 ⊢
                        have HD3 := Aside0.mk hD3
                        have HO3 := Aside0.mk hO3
                        clear hD3 hO3
                        have hX32 := HD3.out.cell (i := m3) (by rw [HSu.out]; omega)
                        have hY32 := HD3.out.cell (i := m3 - 1) (by rw [HSu.out]; omega)
                        have hFX32 := fun k => HD3.out.frozen k
                        rw [← EX3.out] at hX32
                        rw [← EY3.out] at hY32
                        clear hX3 hY3 hFX3
                        go_wp2_with fail
                        go_region
                        have hsw := (HD3.out.swap (i := m3) (j := m3 - 1) (by rw [HSu.out]; omega) (by rw [HSu.out]; omega)).drew
                        rw [← EX3.out, ← EY3.out] at hsw
                        have hso := (Srt.only_swap HO3.out (off + (m3)) (off + (m3 - 1)) (.int .u64 Y3) (.int .u64 X3)).drew
                        clear hX32 hY32 hFX32
                        go_wp2
                        go_roundg k3
                        case measure => omega
                        case rel => exact ⟨m3 + 1, Go.Sort.swp du m3 (m3 - 1), by go_num, by omega, by omega, ⟨by rw [Srt.swp_size, HSu.out]⟩, ⟨hsw⟩, ⟨hso⟩, ⟨by rw [← HEu.out, Srt.up_go hmb (by rw [← EX3.out, ← EY3.out]; exact hl3)]⟩⟩
                      | false =>
                        go_wp2
                        go_quiet ((go_at_call 134; exact Calls.quiet_of_same (cmp_Less_uint64.calls _ _ _)))
                        go_wp2
                        go_roundg s
                        case measure => omega
                        case rel => exact ⟨j, du, rfl, by congr 1; omega, by omega, by omega, by omega, HSu, ⟨HDu.out.drewN _⟩, ⟨HOu.out.drewN _⟩, ⟨by rw [← HE.out, Srt.pi_go (D := d1) HSC.out (by omega) h50 (by rw [if_neg (by omega)]; exact HD0.out) (by rw [if_pos (by omega), ← HEu.out, Srt.up_stop (by rw [← EX3.out, ← EY3.out]; exact hl3)])]⟩⟩
                    · have bm3 : decide ((m3 : Int) < (b : Int)) = false := decide_eq_false (by omega)
                      go_wp2
                      go_roundg s
                      case measure => omega
                      case rel => exact ⟨j, du, rfl, by congr 1; omega, by omega, by omega, by omega, HSu, HDu, HOu, ⟨by rw [← HE.out, Srt.pi_go (D := d1) HSC.out (by omega) h50 (by rw [if_neg (by omega)]; exact HD0.out) (by rw [if_pos (by omega), ← HEu.out, Srt.up_end (by omega)])]⟩⟩
                · have b8 : decide ((2 : Int) ≤ (b : Int) - (j : Int)) = false := decide_eq_false (by omega)
                  go_wp2_with fail
                  go_roundg s
                  case measure => omega
                  case rel => exact ⟨j, d1, rfl, by congr 1; omega, by omega, by omega, by omega, HS1, HDs, HOs, ⟨by rw [← HE.out, Srt.pi_go (D := d1) HSC.out (by omega) h50 (by rw [if_neg (by omega)]; exact HD0.out) (by rw [if_neg (by omega)])]⟩⟩
        · have hjb' : j = b := by omega
          have bj : decide ((j : Int) < (b : Int)) = false := decide_eq_false (by omega)
          have beq : ((j : Int) == (b : Int)) = true := beq_iff_eq.2 (by omega)
          have HSC := Aside0.mk (show Go.Sort.scanSorted Go.Sort.ltInt dk b i = b by rw [← HEj.out, Srt.scan_end (by omega), hjb'])
          clear hjb'
          go_wp2
          go_quiet (fail)
          go_wp2
          go_ret
          rw [← HE.out, Srt.pi_true HSC.out]
          exact ⟨rfl, HDj.out.drewN _, HOj.out.drewN _⟩


/-! ### slices_partitionEqualOrdered_uint64: function 135 -/
-- by hand
set_option maxRecDepth 100000 in
set_option maxHeartbeats 16000000 in
theorem slices_partitionEqualOrdered_uint64.calls {A off cap a b pv : Nat} {T : TypeId} {C : Array Value} {d : Array Int} {w : World} (hD : Srt.Dat w A off T C d) (hab : a ≤ pv) (hpb : pv < b) (hb : b ≤ d.size) (hsz : d.size ≤ 1099511627776) :
    Calls Try.prog 135 #[.slice (some ⟨A, off, none⟩) d.size cap, .int .i64 (a : Int), .int .i64 (b : Int), .int .i64 (pv : Int)] w fun e w' => e = .returned (.int .i64 ((Go.Sort.partitionEqual Go.Sort.ltInt d a b pv).1 : Int)) ∧ Srt.Dat w' A off T C (Go.Sort.partitionEqual Go.Sort.ltInt d a b pv).2 ∧ Srt.Only A w w' := by
  have HD := Aside0.mk hD
  obtain ⟨n, hn⟩ : ∃ n, n = d.size := ⟨_, rfl⟩
  have HN := Aside0.mk hn
  have HS := Aside0.mk hn.symm
  rw [← hn] at hb hsz ⊢
  clear hD hn
  have HO : Aside0 (Srt.Only A w w) := ⟨Mut.refl _ _⟩
  have e1 : wrap64 ((a : Int) + 1) = (a : Int) + 1 := by unfold wrap64; omega
  have e2 : wrap64 ((b : Int) - 1) = (b : Int) - 1 := by unfold wrap64; omega
  go_enter Try.func135, Try.ntmps135
  go_upto_region 1 with fail
  go_cut [] (fun wx => Aside0 (Srt.Dat wx A off T C (Go.Sort.swp d (a) (pv))) ∧ Aside0 (Srt.Only A w wx))
  case first =>
    have HBI := Aside0.mk (show a < d.size by rw [HS.out]; omega)
    have HBJ := Aside0.mk (show pv < d.size by rw [HS.out]; omega)
    have hP := HD.out.cell (i := a) (by rw [HS.out]; omega)
    obtain ⟨P, eP⟩ : ∃ z_, z_ = d[a]! := ⟨_, rfl⟩
    rw [← eP] at hP
    have EP := Aside0.mk eP
    clear eP
    have hR := HD.out.cell (i := pv) (by rw [HS.out]; omega)
    obtain ⟨R, eR⟩ : ∃ z_, z_ = d[pv]! := ⟨_, rfl⟩
    rw [← eR] at hR
    have ER := Aside0.mk eR
    clear eR
    have hFP := fun k => HD.out.frozen k
    have np0 : (0 : Int) ≤ (a : Int) := by omega
    have np1 : (a : Int) < (n : Int) := by omega
    have nr0 : (0 : Int) ≤ (pv : Int) := by omega
    have nr1 : (pv : Int) < (n : Int) := by omega
    by_cases hsm : a = pv
    · subst hsm
      obtain rfl : P = R := EP.out.trans ER.out.symm
      clear hR
      go_region
      go_wp2_with fail
      go_meet
      have hsw := (HD.out.swap (i := a) (j := a) HBI.out HBJ.out).drew
      rw [← EP.out] at hsw
      exact ⟨⟨hsw⟩, ⟨(Srt.only_swap HO.out _ _ _ _).drew⟩⟩
    · go_region
      go_wp2_with fail
      go_meet
      have hsw := (HD.out.swap (i := a) (j := pv) HBI.out HBJ.out).drew
      rw [← EP.out, ← ER.out] at hsw
      exact ⟨⟨hsw⟩, ⟨(Srt.only_swap HO.out _ _ _ _).drew⟩⟩
  case rest =>
    obtain ⟨HD1, HO1⟩ := hcut
    obtain ⟨d1, hd1⟩ : ∃ d1, d1 = Go.Sort.swp d a pv := ⟨_, rfl⟩
    rw [← hd1] at HD1
    have HS1 := Aside0.mk (show d1.size = n by rw [hd1, Srt.swp_size, HS.out])
    have HZ := Aside0.mk hd1
    clear hd1
    go_wp2_with fail
    go_loopg [9, 10] (b - a) (fun kq v9 v10 w' => ∃ (i j : Nat) (dk : Array Int), v9 = .int .i64 (i : Int) ∧ v10 = .int .i64 (j : Int) ∧ j + 1 ≤ i + kq ∧ a < i ∧ i ≤ j + 1 ∧ j < b ∧ Aside0 (dk.size = n) ∧ Aside0 (Srt.Dat w' A off T C dk) ∧ Aside0 (Srt.Only A w w') ∧ Aside0 (Go.Sort.partEqLoop Go.Sort.ltInt a i j dk = Go.Sort.partEqLoop Go.Sort.ltInt a (a + 1) (b - 1) d1))
    case atStart => exact ⟨a + 1, b - 1, d1, by go_num, by congr 1; omega, by omega, by omega, by omega, by omega, HS1, HD1, HO1, ⟨rfl⟩⟩
    case round =>
      obtain ⟨i, j, dk, rfl, rfl, hk, hai, hij, hjb, HSk, HDk, HOk, HEk⟩ := hrel
      have hi0 : (0 : Int) ≤ (i : Int) := by omega
      have hj0 : (0 : Int) ≤ (j : Int) := by omega
      go_upto_block 2 with fail
      go_cut [9] (fun s wx => ∃ xu : Nat, s = .int .i64 (xu : Int) ∧ i ≤ xu ∧ xu ≤ j + 1 ∧ Aside0 (Srt.Dat wx A off T C dk) ∧ Aside0 (Srt.Only A w wx) ∧ Aside0 (Go.Sort.scanUp (fun x => !Go.Sort.ltInt dk[a]! x) dk j i = xu) ∧ Aside0 (xu ≤ j → (fun x => !Go.Sort.ltInt dk[a]! x) dk[xu]! = false))
      case first =>
        go_wp2_with fail
        go_loopg [9] (j + 1 - i) (fun kq s w' => ∃ x : Nat, s = .int .i64 (x : Int) ∧ x + kq = j + 1 ∧ i ≤ x ∧ Aside0 (Srt.Dat w' A off T C dk) ∧ Aside0 (Srt.Only A w w') ∧ Aside0 (Go.Sort.scanUp (fun x => !Go.Sort.ltInt dk[a]! x) dk j i = Go.Sort.scanUp (fun x => !Go.Sort.ltInt dk[a]! x) dk j x))
        case atStart => exact ⟨i, by first | rfl | go_num, by omega, Nat.le_refl _, HDk, HOk, ⟨rfl⟩⟩
        case round =>
          obtain ⟨x, rfl, hkx, hix, HDx, HOx, HEx⟩ := hrel
          have ha0 : (0 : Int) ≤ (a : Int) := by omega
          have ha1 : (a : Int) < (n : Int) := by omega
          by_cases hle : x ≤ j
          · obtain ⟨k7, rfl⟩ : ∃ k7, gk = k7 + 1 := ⟨gk - 1, by omega⟩
            have hX := HDx.out.cell (i := x) (by rw [HSk.out]; omega)
            obtain ⟨X, eX⟩ : ∃ z_, z_ = dk[x]! := ⟨_, rfl⟩
            rw [← eX] at hX
            have EX := Aside0.mk eX
            clear eX
            have hV := HDx.out.cell (i := a) (by rw [HSk.out]; omega)
            obtain ⟨V, eV⟩ : ∃ z_, z_ = dk[a]! := ⟨_, rfl⟩
            rw [← eV] at hV
            have EV := Aside0.mk eV
            clear eV
            have nx0 : (0 : Int) ≤ (x : Int) := by omega
            have nx1 : (x : Int) < (n : Int) := by omega
            have bx : decide ((x : Int) ≤ (j : Int)) = true := decide_eq_true (by omega)
            cases hl : Go.Sort.ltInt V X with
            | false =>
              go_wp2_with fail
              go_quiet ((go_at_call 134; exact Calls.quiet_of_same (cmp_Less_uint64.calls _ _ _)))
              go_wp2_with fail
              go_roundg k7
              case measure => omega
              case rel => exact ⟨x + 1, by go_num, by omega, by omega, ⟨HDx.out.drewN _⟩, ⟨HOx.out.drewN _⟩, ⟨HEx.out.trans (Srt.su_go hle (by show (!Go.Sort.ltInt dk[a]! dk[x]!) = true; rw [← EX.out, ← EV.out, hl]; rfl))⟩⟩
            | true =>
              go_wp2_with fail
              go_quiet ((go_at_call 134; exact Calls.quiet_of_same (cmp_Less_uint64.calls _ _ _)))
              go_wp2_with fail
              go_meet
              exact ⟨x, rfl, hix, by omega, ⟨HDx.out.drewN _⟩, ⟨HOx.out.drewN _⟩, ⟨HEx.out.trans (Srt.su_stop (by show (!Go.Sort.ltInt dk[a]! dk[x]!) = false; rw [← EX.out, ← EV.out, hl]; rfl))⟩, ⟨fun _ => by show (!Go.Sort.ltInt dk[a]! dk[x]!) = false; rw [← EX.out, ← EV.out, hl]; rfl⟩⟩
          · have bx : decide ((x : Int) ≤ (j : Int)) = false := decide_eq_false (by omega)
            go_wp2_with fail
            go_quiet (fail)
            go_wp2_with fail
            go_meet
            exact ⟨x, rfl, hix, by omega, ⟨HDx.out.drewN _⟩, ⟨HOx.out.drewN _⟩, ⟨HEx.out.trans (Srt.su_end (by omega))⟩, ⟨fun h => absurd h hle⟩⟩
      case rest =>
        obtain ⟨xu, rfl, hb1u, hb2u, HDu, HOu, HEu, HPu⟩ := hcut
        go_upto_block 4 with fail
        go_cut [10] (fun s wx => ∃ yd : Nat, s = .int .i64 (yd : Int) ∧ yd ≤ j ∧ xu ≤ yd + 1 ∧ Aside0 (Srt.Dat wx A off T C dk) ∧ Aside0 (Srt.Only A w wx) ∧ Aside0 (Go.Sort.scanDown (fun x => Go.Sort.ltInt dk[a]! x) dk xu j = yd) ∧ Aside0 (xu ≤ yd → (fun x => Go.Sort.ltInt dk[a]! x) dk[yd]! = false))
        case first =>
          go_wp2_with fail
          go_loopg [10] (j + 1 - xu) (fun kq s w' => ∃ x : Nat, s = .int .i64 (x : Int) ∧ x + 1 = xu + kq ∧ x ≤ j ∧ Aside0 (Srt.Dat w' A off T C dk) ∧ Aside0 (Srt.Only A w w') ∧ Aside0 (Go.Sort.scanDown (fun x => Go.Sort.ltInt dk[a]! x) dk xu j = Go.Sort.scanDown (fun x => Go.Sort.ltInt dk[a]! x) dk xu x))
          case atStart => exact ⟨j, by first | rfl | go_num, by omega, Nat.le_refl _, HDu, HOu, ⟨rfl⟩⟩
          case round =>
            obtain ⟨x, rfl, hkx, hix, HDx, HOx, HEx⟩ := hrel
            have ha0 : (0 : Int) ≤ (a : Int) := by omega
            have ha1 : (a : Int) < (n : Int) := by omega
            by_cases hle : xu ≤ x
            · obtain ⟨k7, rfl⟩ : ∃ k7, gk = k7 + 1 := ⟨gk - 1, by omega⟩
              have hX := HDx.out.cell (i := x) (by rw [HSk.out]; omega)
              obtain ⟨X, eX⟩ : ∃ z_, z_ = dk[x]! := ⟨_, rfl⟩
              rw [← eX] at hX
              have EX := Aside0.mk eX
              clear eX
              have hV := HDx.out.cell (i := a) (by rw [HSk.out]; omega)
              obtain ⟨V, eV⟩ : ∃ z_, z_ = dk[a]! := ⟨_, rfl⟩
              rw [← eV] at hV
              have EV := Aside0.mk eV
              clear eV
              have nx0 : (0 : Int) ≤ (x : Int) := by omega
              have nx1 : (x : Int) < (n : Int) := by omega
              have bx : decide ((xu : Int) ≤ (x : Int)) = true := decide_eq_true (by omega)
              cases hl : Go.Sort.ltInt V X with
              | true =>
                go_wp2_with fail
                go_quiet ((go_at_call 134; exact Calls.quiet_of_same (cmp_Less_uint64.calls _ _ _)))
                go_wp2_with fail
                go_roundg k7
                case measure => omega
                case rel => exact ⟨x - 1, by congr 1; omega, by omega, by omega, ⟨HDx.out.drewN _⟩, ⟨HOx.out.drewN _⟩, ⟨HEx.out.trans (Srt.sd_go hle (by omega) (by show Go.Sort.ltInt dk[a]! dk[x]! = true; rw [← EX.out, ← EV.out, hl]))⟩⟩
              | false =>
                go_wp2_with fail
                go_quiet ((go_at_call 134; exact Calls.quiet_of_same (cmp_Less_uint64.calls _ _ _)))
                go_wp2_with fail
                go_meet
                exact ⟨x, rfl, hix, by omega, ⟨HDx.out.drewN _⟩, ⟨HOx.out.drewN _⟩, ⟨HEx.out.trans (Srt.sd_stop (by show Go.Sort.ltInt dk[a]! dk[x]! = false; rw [← EX.out, ← EV.out, hl]))⟩, ⟨fun _ => by show Go.Sort.ltInt dk[a]! dk[x]! = false; rw [← EX.out, ← EV.out, hl]⟩⟩
            · have bx : decide ((xu : Int) ≤ (x : Int)) = false := decide_eq_false (by omega)
              go_wp2_with fail
              go_quiet (fail)
              go_wp2_with fail
              go_meet
              exact ⟨x, rfl, hix, by omega, ⟨HDx.out.drewN _⟩, ⟨HOx.out.drewN _⟩, ⟨HEx.out.trans (Srt.sd_end (by omega))⟩, ⟨fun h => absurd h hle⟩⟩
        case rest =>
          obtain ⟨yd, rfl, hb1d, hb2d, HDd, HOd, HEd, HPd⟩ := hcut
          by_cases hgt : yd < xu
          · have bg : decide ((yd : Int) < (xu : Int)) = true := decide_eq_true (by omega)
            go_wp2
            go_ret
            have hres := Srt.pe_end HEu.out HEd.out hgt
            rw [HEk.out] at hres
            unfold Go.Sort.partitionEqual
            rw [← HZ.out, hres]
            exact ⟨rfl, HDd.out, HOd.out⟩
          · have bg : decide ((yd : Int) < (xu : Int)) = false := decide_eq_false (by omega)
            have hxy : xu ≠ yd := by
              rintro rfl
              have h1 := HPu.out (by omega)
              have h2 := HPd.out (by omega)
              simp only at h1 h2
              rw [h2] at h1
              exact absurd h1 (by simp)
            obtain ⟨k1, rfl⟩ : ∃ k1, gk = k1 + 1 := ⟨gk - 1, by omega⟩
            go_wp2_with fail
            have hP := HDd.out.cell (i := xu) (by rw [HSk.out]; omega)
            obtain ⟨P, eP⟩ : ∃ z_, z_ = dk[xu]! := ⟨_, rfl⟩
            rw [← eP] at hP
            have EP := Aside0.mk eP
            clear eP
            have hR := HDd.out.cell (i := yd) (by rw [HSk.out]; omega)
            obtain ⟨R, eR⟩ : ∃ z_, z_ = dk[yd]! := ⟨_, rfl⟩
            rw [← eR] at hR
            have ER := Aside0.mk eR
            clear eR
            have hFP := fun k => HDd.out.frozen k
            have np0 : (0 : Int) ≤ (xu : Int) := by omega
            have np1 : (xu : Int) < (n : Int) := by omega
            have nr0 : (0 : Int) ≤ (yd : Int) := by omega
            have nr1 : (yd : Int) < (n : Int) := by omega
            go_region
            have hsw := (HDd.out.swap (i := xu) (j := yd) (by rw [HSk.out]; omega) (by rw [HSk.out]; omega)).drew
            rw [← EP.out, ← ER.out] at hsw
            have HSW := Aside0.mk hsw
            clear hsw
            go_wp2
            go_roundg k1
            case measure => omega
            case rel => exact ⟨xu + 1, yd - 1, Go.Sort.swp dk xu yd, by go_num, by congr 1; omega, by omega, by omega, by omega, by omega, ⟨by rw [Srt.swp_size, HSk.out]⟩, HSW, ⟨(Srt.only_swap HOd.out _ _ _ _).drew⟩, ⟨by rw [← HEk.out, Srt.pe_go HEu.out HEd.out (by omega)]⟩⟩

end Go.Proofs.Ytdjbpdahdakfjaa.PLook
