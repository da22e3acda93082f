-- Written by a program of this session (a turned copy of the kit's printer, texts of this session's own for functions that it does not take).
import Derived.Test.YtdjbpdahdakfjaaPLookx0
import Derived.Test.YtdjbpdahdakfjaaPLookx4
import Derived.Test.YtdjbpdahdakfjaaPLookx5
import Derived.Test.YtdjbpdahdakfjaaPLookx6
namespace Go.Proofs.Ytdjbpdahdakfjaa.PLook
open Go.RowKit Go.Proofs.YtdjbpdahdakfjaaH Go.Proofs.YtdjbpdahdakfjaaW.PrintWords Go.Proofs.YtdjbpdahdakfjaaW.PrintLast Go.Proofs.YtdjbpdahdakfjaaW.PrintMore
attribute [local go_sem] max2_int min2_int max_two min_two max_three min_three max_four min_four   -- for this text's walks alone
set_option linter.unusedVariables false
set_option linter.unusedSimpArgs false


/-! ### slices_partitionOrdered_uint64: function 136 -/
-- by hand
set_option maxRecDepth 100000 in
set_option maxHeartbeats 16000000 in
theorem slices_partitionOrdered_uint64.calls {A off cap a b pv : Nat} {T : TypeId} {C : Array Value} {d : Array Int} {w : World} (hD : Srt.Dat w A off T C d) (hab : a ≤ pv) (hpb : pv < b) (hb : b ≤ d.size) (hsz : d.size ≤ 1099511627776) :
    Calls Try.prog 136 #[.slice (some ⟨A, off, none⟩) d.size cap, .int .i64 (a : Int), .int .i64 (b : Int), .int .i64 (pv : Int)] w fun e w' => e = .returned (.tuple #[.int .i64 ((Go.Sort.partition Go.Sort.ltInt d a b pv).1 : Int), .bool (Go.Sort.partition Go.Sort.ltInt d a b pv).2.1]) ∧ Srt.Dat w' A off T C (Go.Sort.partition Go.Sort.ltInt d a b pv).2.2 ∧ Srt.Only A w w' := by
  have HD := Aside0.mk hD
  obtain ⟨n, hn⟩ : ∃ n, n = d.size := ⟨_, rfl⟩
  have HN := Aside0.mk hn
  have HS := Aside0.mk hn.symm
  rw [← hn] at hb hsz ⊢
  clear hD hn
  have HO : Aside0 (Srt.Only A w w) := ⟨Mut.refl _ _⟩
  have e1 : wrap64 ((a : Int) + 1) = (a : Int) + 1 := by unfold wrap64; omega
  have e2 : wrap64 ((b : Int) - 1) = (b : Int) - 1 := by unfold wrap64; omega
  obtain ⟨m, hm⟩ : ∃ m, b = m + 1 := ⟨b - 1, by omega⟩
  have e3 : (b : Int) - 1 = (m : Int) := by omega
  have HM := Aside0.mk (show b - 1 = m by omega)
  have hmn : m < n := by omega
  have ham : a ≤ m := by omega
  clear hm
  go_enter Try.func136, Try.ntmps136
  go_upto_region 1 with fail
  go_cut [] (fun wx => Aside0 (Srt.Dat wx A off T C (Go.Sort.swp d (a) (pv))) ∧ Aside0 (Srt.Only A w wx))
  case first =>
    have HBI := Aside0.mk (show a < d.size by rw [HS.out]; omega)
    have HBJ := Aside0.mk (show pv < d.size by rw [HS.out]; omega)
    have hP := HD.out.cell (i := a) (by rw [HS.out]; omega)
    obtain ⟨P, eP⟩ : ∃ z_, z_ = d[a]! := ⟨_, rfl⟩
    rw [← eP] at hP
    have EP := Aside0.mk eP
    clear eP
    have hR := HD.out.cell (i := pv) (by rw [HS.out]; omega)
    obtain ⟨R, eR⟩ : ∃ z_, z_ = d[pv]! := ⟨_, rfl⟩
    rw [← eR] at hR
    have ER := Aside0.mk eR
    clear eR
    have hFP := fun k => HD.out.frozen k
    have np0 : (0 : Int) ≤ (a : Int) := by omega
    have np1 : (a : Int) < (n : Int) := by omega
    have nr0 : (0 : Int) ≤ (pv : Int) := by omega
    have nr1 : (pv : Int) < (n : Int) := by omega
    by_cases hsm : a = pv
    · subst hsm
      obtain rfl : P = R := EP.out.trans ER.out.symm
      clear hR
      go_region
      go_wp2_with fail
      go_meet
      have hsw := (HD.out.swap (i := a) (j := a) HBI.out HBJ.out).drew
      rw [← EP.out] at hsw
      exact ⟨⟨hsw⟩, ⟨(Srt.only_swap HO.out _ _ _ _).drew⟩⟩
    · go_region
      go_wp2_with fail
      go_meet
      have hsw := (HD.out.swap (i := a) (j := pv) HBI.out HBJ.out).drew
      rw [← EP.out, ← ER.out] at hsw
      exact ⟨⟨hsw⟩, ⟨(Srt.only_swap HO.out _ _ _ _).drew⟩⟩
  case rest =>
    obtain ⟨HD1, HO1⟩ := hcut
    obtain ⟨d1, hd1⟩ : ∃ d1, d1 = Go.Sort.swp d a pv := ⟨_, rfl⟩
    rw [← hd1] at HD1
    have HS1 := Aside0.mk (show d1.size = n by rw [hd1, Srt.swp_size, HS.out])
    have HZ := Aside0.mk hd1
    clear hd1
    obtain ⟨i0, hi0⟩ : ∃ i0, i0 = a + 1 := ⟨_, rfl⟩
    have e4 : (a : Int) + 1 = (i0 : Int) := by omega
    have HI0 := Aside0.mk hi0
    have hai0 : a < i0 := by omega
    have hi0m : i0 ≤ m + 1 := by omega
    clear hi0
    go_upto_block 0 with fail
    go_cut [10] (fun s wx => ∃ xu : Nat, s = .int .i64 (xu : Int) ∧ i0 ≤ xu ∧ xu ≤ m + 1 ∧ Aside0 (Srt.Dat wx A off T C d1) ∧ Aside0 (Srt.Only A w wx) ∧ Aside0 (Go.Sort.scanUp (fun x => Go.Sort.ltInt x d1[a]!) d1 m i0 = xu) ∧ Aside0 (xu ≤ m → (fun x => Go.Sort.ltInt x d1[a]!) d1[xu]! = false))
    case first =>
      go_wp2_with fail
      go_loopg [10] (m + 1 - i0) (fun kq s w' => ∃ x : Nat, s = .int .i64 (x : Int) ∧ x + kq = m + 1 ∧ i0 ≤ x ∧ Aside0 (Srt.Dat w' A off T C d1) ∧ Aside0 (Srt.Only A w w') ∧ Aside0 (Go.Sort.scanUp (fun x => Go.Sort.ltInt x d1[a]!) d1 m i0 = Go.Sort.scanUp (fun x => Go.Sort.ltInt x d1[a]!) d1 m x))
      case atStart => exact ⟨i0, by first | rfl | go_num, by omega, Nat.le_refl _, HD1, HO1, ⟨rfl⟩⟩
      case round =>
        obtain ⟨x, rfl, hkx, hix, HDx, HOx, HEx⟩ := hrel
        have ha0 : (0 : Int) ≤ (a : Int) := by omega
        have ha1 : (a : Int) < (n : Int) := by omega
        by_cases hle : x ≤ m
        · obtain ⟨k7, rfl⟩ : ∃ k7, gk = k7 + 1 := ⟨gk - 1, by omega⟩
          have hX := HDx.out.cell (i := x) (by rw [HS1.out]; omega)
          obtain ⟨X, eX⟩ : ∃ z_, z_ = d1[x]! := ⟨_, rfl⟩
          rw [← eX] at hX
          have EX := Aside0.mk eX
          clear eX
          have hV := HDx.out.cell (i := a) (by rw [HS1.out]; omega)
          obtain ⟨V, eV⟩ : ∃ z_, z_ = d1[a]! := ⟨_, rfl⟩
          rw [← eV] at hV
          have EV := Aside0.mk eV
          clear eV
          have nx0 : (0 : Int) ≤ (x : Int) := by omega
          have nx1 : (x : Int) < (n : Int) := by omega
          have bx : decide ((x : Int) ≤ (m : Int)) = true := decide_eq_true (by omega)
          cases hl : Go.Sort.ltInt X V with
          | true =>
            go_wp2_with fail
            go_quiet ((go_at_call 134; exact Calls.quiet_of_same (cmp_Less_uint64.calls _ _ _)))
            go_wp2_with fail
            go_roundg k7
            case measure => omega
            case rel => exact ⟨x + 1, by go_num, by omega, by omega, ⟨HDx.out.drewN _⟩, ⟨HOx.out.drewN _⟩, ⟨HEx.out.trans (Srt.su_go hle (by show Go.Sort.ltInt d1[x]! d1[a]! = true; rw [← EX.out, ← EV.out, hl]))⟩⟩
          | false =>
            go_wp2_with fail
            go_quiet ((go_at_call 134; exact Calls.quiet_of_same (cmp_Less_uint64.calls _ _ _)))
            go_wp2_with fail
            go_meet
            exact ⟨x, rfl, hix, by omega, ⟨HDx.out.drewN _⟩, ⟨HOx.out.drewN _⟩, ⟨HEx.out.trans (Srt.su_stop (by show Go.Sort.ltInt d1[x]! d1[a]! = false; rw [← EX.out, ← EV.out, hl]))⟩, ⟨fun _ => by show Go.Sort.ltInt d1[x]! d1[a]! = false; rw [← EX.out, ← EV.out, hl]⟩⟩
        · have bx : decide ((x : Int) ≤ (m : Int)) = false := decide_eq_false (by omega)
          go_wp2_with fail
          go_quiet (fail)
          go_wp2_with fail
          go_meet
          exact ⟨x, rfl, hix, by omega, ⟨HDx.out.drewN _⟩, ⟨HOx.out.drewN _⟩, ⟨HEx.out.trans (Srt.su_end (by omega))⟩, ⟨fun h => absurd h hle⟩⟩
    case rest =>
      obtain ⟨xu, rfl, hb1u, hb2u, HDu, HOu, HEu, HPu⟩ := hcut
      go_upto_block 2 with fail
      go_cut [11] (fun s wx => ∃ yd : Nat, s = .int .i64 (yd : Int) ∧ yd ≤ m ∧ xu ≤ yd + 1 ∧ Aside0 (Srt.Dat wx A off T C d1) ∧ Aside0 (Srt.Only A w wx) ∧ Aside0 (Go.Sort.scanDown (fun x => !Go.Sort.ltInt x d1[a]!) d1 xu m = yd) ∧ Aside0 (xu ≤ yd → (fun x => !Go.Sort.ltInt x d1[a]!) d1[yd]! = false))
      case first =>
        go_wp2_with fail
        go_loopg [11] (m + 1 - xu) (fun kq s w' => ∃ x : Nat, s = .int .i64 (x : Int) ∧ x + 1 = xu + kq ∧ x ≤ m ∧ Aside0 (Srt.Dat w' A off T C d1) ∧ Aside0 (Srt.Only A w w') ∧ Aside0 (Go.Sort.scanDown (fun x => !Go.Sort.ltInt x d1[a]!) d1 xu m = Go.Sort.scanDown (fun x => !Go.Sort.ltInt x d1[a]!) d1 xu x))
        case atStart => exact ⟨m, by first | rfl | go_num, by omega, Nat.le_refl _, HDu, HOu, ⟨rfl⟩⟩
        case round =>
          obtain ⟨x, rfl, hkx, hix, HDx, HOx, HEx⟩ := hrel
          have ha0 : (0 : Int) ≤ (a : Int) := by omega
          have ha1 : (a : Int) < (n : Int) := by omega
          by_cases hle : xu ≤ x
          · obtain ⟨k7, rfl⟩ : ∃ k7, gk = k7 + 1 := ⟨gk - 1, by omega⟩
            have hX := HDx.out.cell (i := x) (by rw [HS1.out]; omega)
            obtain ⟨X, eX⟩ : ∃ z_, z_ = d1[x]! := ⟨_, rfl⟩
            rw [← eX] at hX
            have EX := Aside0.mk eX
            clear eX
            have hV := HDx.out.cell (i := a) (by rw [HS1.out]; omega)
            obtain ⟨V, eV⟩ : ∃ z_, z_ = d1[a]! := ⟨_, rfl⟩
            rw [← eV] at hV
            have EV := Aside0.mk eV
            clear eV
            have nx0 : (0 : Int) ≤ (x : Int) := by omega
            have nx1 : (x : Int) < (n : Int) := by omega
            have bx : decide ((xu : Int) ≤ (x : Int)) = true := decide_eq_true (by omega)
            cases hl : Go.Sort.ltInt X V with
            | false =>
              go_wp2_with fail
              go_quiet ((go_at_call 134; exact Calls.quiet_of_same (cmp_Less_uint64.calls _ _ _)))
              go_wp2_with fail
              go_roundg k7
              case measure => omega
              case rel => exact ⟨x - 1, by congr 1; omega, by omega, by omega, ⟨HDx.out.drewN _⟩, ⟨HOx.out.drewN _⟩, ⟨HEx.out.trans (Srt.sd_go hle (by omega) (by show (!Go.Sort.ltInt d1[x]! d1[a]!) = true; rw [← EX.out, ← EV.out, hl]; rfl))⟩⟩
            | true =>
              go_wp2_with fail
              go_quiet ((go_at_call 134; exact Calls.quiet_of_same (cmp_Less_uint64.calls _ _ _)))
              go_wp2_with fail
              go_meet
              exact ⟨x, rfl, hix, by omega, ⟨HDx.out.drewN _⟩, ⟨HOx.out.drewN _⟩, ⟨HEx.out.trans (Srt.sd_stop (by show (!Go.Sort.ltInt d1[x]! d1[a]!) = false; rw [← EX.out, ← EV.out, hl]; rfl))⟩, ⟨fun _ => by show (!Go.Sort.ltInt d1[x]! d1[a]!) = false; rw [← EX.out, ← EV.out, hl]; rfl⟩⟩
          · have bx : decide ((xu : Int) ≤ (x : Int)) = false := decide_eq_false (by omega)
            go_wp2_with fail
            go_quiet (fail)
            go_wp2_with fail
            go_meet
            exact ⟨x, rfl, hix, by omega, ⟨HDx.out.drewN _⟩, ⟨HOx.out.drewN _⟩, ⟨HEx.out.trans (Srt.sd_end (by omega))⟩, ⟨fun h => absurd h hle⟩⟩
      case rest =>
        obtain ⟨yd, rfl, hb1d, hb2d, HDd, HOd, HEd, HPd⟩ := hcut
        have HEU := Aside0.mk (show Go.Sort.scanUp (fun x => Go.Sort.ltInt x d1[a]!) d1 (b - 1) (a + 1) = xu by rw [HM.out, ← HI0.out]; exact HEu.out)
        have HED := Aside0.mk (show Go.Sort.scanDown (fun x => !Go.Sort.ltInt x d1[a]!) d1 xu (b - 1) = yd by rw [HM.out]; exact HEd.out)
        by_cases hgt : yd < xu
        · have bg : decide ((yd : Int) < (xu : Int)) = true := decide_eq_true (by omega)
          go_upto_region 8 with fail
          go_cut [] (fun wx => Aside0 (Srt.Dat wx A off T C (Go.Sort.swp d1 (yd) (a))) ∧ Aside0 (Srt.Only A w wx))
          case first =>
            have HBI := Aside0.mk (show yd < d1.size by rw [HS1.out]; omega)
            have HBJ := Aside0.mk (show a < d1.size by rw [HS1.out]; omega)
            have hP := HDd.out.cell (i := yd) (by rw [HS1.out]; omega)
            obtain ⟨P, eP⟩ : ∃ z_, z_ = d1[yd]! := ⟨_, rfl⟩
            rw [← eP] at hP
            have EP := Aside0.mk eP
            clear eP
            have hR := HDd.out.cell (i := a) (by rw [HS1.out]; omega)
            obtain ⟨R, eR⟩ : ∃ z_, z_ = d1[a]! := ⟨_, rfl⟩
            rw [← eR] at hR
            have ER := Aside0.mk eR
            clear eR
            have hFP := fun k => HDd.out.frozen k
            have np0 : (0 : Int) ≤ (yd : Int) := by omega
            have np1 : (yd : Int) < (n : Int) := by omega
            have nr0 : (0 : Int) ≤ (a : Int) := by omega
            have nr1 : (a : Int) < (n : Int) := by omega
            by_cases hsm : yd = a
            · subst hsm
              obtain rfl : P = R := EP.out.trans ER.out.symm
              clear hR
              go_region
              go_wp2_with fail
              go_meet
              have hsw := (HDd.out.swap (i := yd) (j := yd) HBI.out HBJ.out).drew
              rw [← EP.out] at hsw
              exact ⟨⟨hsw⟩, ⟨(Srt.only_swap HOd.out _ _ _ _).drew⟩⟩
            · go_region
              go_wp2_with fail
              go_meet
              have hsw := (HDd.out.swap (i := yd) (j := a) HBI.out HBJ.out).drew
              rw [← EP.out, ← ER.out] at hsw
              exact ⟨⟨hsw⟩, ⟨(Srt.only_swap HOd.out _ _ _ _).drew⟩⟩
          case rest =>
            obtain ⟨HD9, HO9⟩ := hcut
            go_wp2
            go_ret2
            rw [Srt.part_end HZ.out HEU.out HED.out hgt]
            exact ⟨rfl, HD9.out, HO9.out⟩
        · have bg : decide ((yd : Int) < (xu : Int)) = false := decide_eq_false (by omega)
          have hxy : xu ≠ yd := by
            rintro rfl
            have h1 := HPu.out (by omega)
            have h2 := HPd.out (by omega)
            simp only at h1 h2
            rw [h1] at h2
            exact absurd h2 (by simp)
          go_wp2_with fail
          have hP := HDd.out.cell (i := xu) (by rw [HS1.out]; omega)
          obtain ⟨P, eP⟩ : ∃ z_, z_ = d1[xu]! := ⟨_, rfl⟩
          rw [← eP] at hP
          have EP := Aside0.mk eP
          clear eP
          have hR := HDd.out.cell (i := yd) (by rw [HS1.out]; omega)
          obtain ⟨R, eR⟩ : ∃ z_, z_ = d1[yd]! := ⟨_, rfl⟩
          rw [← eR] at hR
          have ER := Aside0.mk eR
          clear eR
          have hFP := fun k => HDd.out.frozen k
          have np0 : (0 : Int) ≤ (xu : Int) := by omega
          have np1 : (xu : Int) < (n : Int) := by omega
          have nr0 : (0 : Int) ≤ (yd : Int) := by omega
          have nr1 : (yd : Int) < (n : Int) := by omega
          go_region
          have hsw := (HDd.out.swap (i := xu) (j := yd) (by rw [HS1.out]; omega) (by rw [HS1.out]; omega)).drew
          rw [← EP.out, ← ER.out] at hsw
          have HDw := Aside0.mk hsw
          have HOw := Aside0.mk ((Srt.only_swap HOd.out (off + xu) (off + yd) (.int .u64 R) (.int .u64 P)).drew)
          clear hsw hP hR hFP
          obtain ⟨d2, hd2⟩ : ∃ d2, d2 = Go.Sort.swp d1 xu yd := ⟨_, rfl⟩
          rw [← hd2] at HDw
          have HS2 := Aside0.mk (show d2.size = n by rw [hd2, Srt.swp_size, HS1.out])
          have HZ2 := Aside0.mk hd2
          clear hd2
          go_wp2_with fail
          go_loopg [10, 11] (b - a) (fun kq v9 v10 w' => ∃ (i j : Nat) (dk : Array Int), v9 = .int .i64 (i : Int) ∧ v10 = .int .i64 (j : Int) ∧ j + 1 ≤ i + kq ∧ a < i ∧ i ≤ j + 1 ∧ j < b ∧ Aside0 (dk.size = n) ∧ Aside0 (Srt.Dat w' A off T C dk) ∧ Aside0 (Srt.Only A w w') ∧ Aside0 (Go.Sort.partLoop Go.Sort.ltInt a i j dk = Go.Sort.partLoop Go.Sort.ltInt a (xu + 1) (yd - 1) d2))
          case atStart => exact ⟨xu + 1, yd - 1, d2, by go_num, by congr 1; omega, by omega, by omega, by omega, by omega, HS2, HDw, HOw, ⟨rfl⟩⟩
          case round =>
            obtain ⟨i, j, dk, rfl, rfl, hk, hai, hij, hjb, HSk, HDk, HOk, HEk⟩ := hrel
            have hi0 : (0 : Int) ≤ (i : Int) := by omega
            have hj0 : (0 : Int) ≤ (j : Int) := by omega
            go_upto_block 6 with fail
            go_cut [10] (fun s wx => ∃ xv : Nat, s = .int .i64 (xv : Int) ∧ i ≤ xv ∧ xv ≤ j + 1 ∧ Aside0 (Srt.Dat wx A off T C dk) ∧ Aside0 (Srt.Only A w wx) ∧ Aside0 (Go.Sort.scanUp (fun x => Go.Sort.ltInt x dk[a]!) dk j i = xv) ∧ Aside0 (xv ≤ j → (fun x => Go.Sort.ltInt x dk[a]!) dk[xv]! = false))
            case first =>
              go_wp2_with fail
              go_loopg [10] (j + 1 - i) (fun kq s w' => ∃ x : Nat, s = .int .i64 (x : Int) ∧ x + kq = j + 1 ∧ i ≤ x ∧ Aside0 (Srt.Dat w' A off T C dk) ∧ Aside0 (Srt.Only A w w') ∧ Aside0 (Go.Sort.scanUp (fun x => Go.Sort.ltInt x dk[a]!) dk j i = Go.Sort.scanUp (fun x => Go.Sort.ltInt x dk[a]!) dk j x))
              case atStart => exact ⟨i, by first | rfl | go_num, by omega, Nat.le_refl _, HDk, HOk, ⟨rfl⟩⟩
              case round =>
                obtain ⟨x, rfl, hkx, hix, HDx, HOx, HEx⟩ := hrel
                have ha0 : (0 : Int) ≤ (a : Int) := by omega
                have ha1 : (a : Int) < (n : Int) := by omega
                by_cases hle : x ≤ j
                · obtain ⟨k7, rfl⟩ : ∃ k7, gk = k7 + 1 := ⟨gk - 1, by omega⟩
                  have hX := HDx.out.cell (i := x) (by rw [HSk.out]; omega)
                  obtain ⟨X, eX⟩ : ∃ z_, z_ = dk[x]! := ⟨_, rfl⟩
                  rw [← eX] at hX
                  have EX := Aside0.mk eX
                  clear eX
                  have hV := HDx.out.cell (i := a) (by rw [HSk.out]; omega)
                  obtain ⟨V, eV⟩ : ∃ z_, z_ = dk[a]! := ⟨_, rfl⟩
                  rw [← eV] at hV
                  have EV := Aside0.mk eV
                  clear eV
                  have nx0 : (0 : Int) ≤ (x : Int) := by omega
                  have nx1 : (x : Int) < (n : Int) := by omega
                  have bx : decide ((x : Int) ≤ (j : Int)) = true := decide_eq_true (by omega)
                  cases hl : Go.Sort.ltInt X V with
                  | true =>
                    go_wp2_with fail
                    go_quiet ((go_at_call 134; exact Calls.quiet_of_same (cmp_Less_uint64.calls _ _ _)))
                    go_wp2_with fail
                    go_roundg k7
                    case measure => omega
                    case rel => exact ⟨x + 1, by go_num, by omega, by omega, ⟨HDx.out.drewN _⟩, ⟨HOx.out.drewN _⟩, ⟨HEx.out.trans (Srt.su_go hle (by show Go.Sort.ltInt dk[x]! dk[a]! = true; rw [← EX.out, ← EV.out, hl]))⟩⟩
                  | false =>
                    go_wp2_with fail
                    go_quiet ((go_at_call 134; exact Calls.quiet_of_same (cmp_Less_uint64.calls _ _ _)))
                    go_wp2_with fail
                    go_meet
                    exact ⟨x, rfl, hix, by omega, ⟨HDx.out.drewN _⟩, ⟨HOx.out.drewN _⟩, ⟨HEx.out.trans (Srt.su_stop (by show Go.Sort.ltInt dk[x]! dk[a]! = false; rw [← EX.out, ← EV.out, hl]))⟩, ⟨fun _ => by show Go.Sort.ltInt dk[x]! dk[a]! = false; rw [← EX.out, ← EV.out, hl]⟩⟩
                · have bx : decide ((x : Int) ≤ (j : Int)) = false := decide_eq_false (by omega)
                  go_wp2_with fail
                  go_quiet (fail)
                  go_wp2_with fail
                  go_meet
                  exact ⟨x, rfl, hix, by omega, ⟨HDx.out.drewN _⟩, ⟨HOx.out.drewN _⟩, ⟨HEx.out.trans (Srt.su_end (by omega))⟩, ⟨fun h => absurd h hle⟩⟩
            case rest =>
              obtain ⟨xv, rfl, hb1v, hb2v, HDv, HOv, HEv, HPv⟩ := hcut
              go_upto_block 8 with fail
              go_cut [11] (fun s wx => ∃ ye : Nat, s = .int .i64 (ye : Int) ∧ ye ≤ j ∧ xv ≤ ye + 1 ∧ Aside0 (Srt.Dat wx A off T C dk) ∧ Aside0 (Srt.Only A w wx) ∧ Aside0 (Go.Sort.scanDown (fun x => !Go.Sort.ltInt x dk[a]!) dk xv j = ye) ∧ Aside0 (xv ≤ ye → (fun x => !Go.Sort.ltInt x dk[a]!) dk[ye]! = false))
              case first =>
                go_wp2_with fail
                go_loopg [11] (j + 1 - xv) (fun kq s w' => ∃ x : Nat, s = .int .i64 (x : Int) ∧ x + 1 = xv + kq ∧ x ≤ j ∧ Aside0 (Srt.Dat w' A off T C dk) ∧ Aside0 (Srt.Only A w w') ∧ Aside0 (Go.Sort.scanDown (fun x => !Go.Sort.ltInt x dk[a]!) dk xv j = Go.Sort.scanDown (fun x => !Go.Sort.ltInt x dk[a]!) dk xv x))
                case atStart => exact ⟨j, by first | rfl | go_num, by omega, Nat.le_refl _, HDv, HOv, ⟨rfl⟩⟩
                case round =>
                  obtain ⟨x, rfl, hkx, hix, HDx, HOx, HEx⟩ := hrel
                  have ha0 : (0 : Int) ≤ (a : Int) := by omega
                  have ha1 : (a : Int) < (n : Int) := by omega
                  by_cases hle : xv ≤ x
                  · obtain ⟨k7, rfl⟩ : ∃ k7, gk = k7 + 1 := ⟨gk - 1, by omega⟩
                    have hX := HDx.out.cell (i := x) (by rw [HSk.out]; omega)
                    obtain ⟨X, eX⟩ : ∃ z_, z_ = dk[x]! := ⟨_, rfl⟩
                    rw [← eX] at hX
                    have EX := Aside0.mk eX
                    clear eX
                    have hV := HDx.out.cell (i := a) (by rw [HSk.out]; omega)
                    obtain ⟨V, eV⟩ : ∃ z_, z_ = dk[a]! := ⟨_, rfl⟩
                    rw [← eV] at hV
                    have EV := Aside0.mk eV
                    clear eV
                    have nx0 : (0 : Int) ≤ (x : Int) := by omega
                    have nx1 : (x : Int) < (n : Int) := by omega
                    have bx : decide ((xv : Int) ≤ (x : Int)) = true := decide_eq_true (by omega)
                    cases hl : Go.Sort.ltInt X V with
                    | false =>
                      go_wp2_with fail
                      go_quiet ((go_at_call 134; exact Calls.quiet_of_same (cmp_Less_uint64.calls _ _ _)))
                      go_wp2_with fail
                      go_roundg k7
                      case measure => omega
                      case rel => exact ⟨x - 1, by congr 1; omega, by omega, by omega, ⟨HDx.out.drewN _⟩, ⟨HOx.out.drewN _⟩, ⟨HEx.out.trans (Srt.sd_go hle (by omega) (by show (!Go.Sort.ltInt dk[x]! dk[a]!) = true; rw [← EX.out, ← EV.out, hl]; rfl))⟩⟩
                    | true =>
                      go_wp2_with fail
                      go_quiet ((go_at_call 134; exact Calls.quiet_of_same (cmp_Less_uint64.calls _ _ _)))
                      go_wp2_with fail
                      go_meet
                      exact ⟨x, rfl, hix, by omega, ⟨HDx.out.drewN _⟩, ⟨HOx.out.drewN _⟩, ⟨HEx.out.trans (Srt.sd_stop (by show (!Go.Sort.ltInt dk[x]! dk[a]!) = false; rw [← EX.out, ← EV.out, hl]; rfl))⟩, ⟨fun _ => by show (!Go.Sort.ltInt dk[x]! dk[a]!) = false; rw [← EX.out, ← EV.out, hl]; rfl⟩⟩
                  · have bx : decide ((xv : Int) ≤ (x : Int)) = false := decide_eq_false (by omega)
                    go_wp2_with fail
                    go_quiet (fail)
                    go_wp2_with fail
                    go_meet
                    exact ⟨x, rfl, hix, by omega, ⟨HDx.out.drewN _⟩, ⟨HOx.out.drewN _⟩, ⟨HEx.out.trans (Srt.sd_end (by omega))⟩, ⟨fun h => absurd h hle⟩⟩
              case rest =>
                obtain ⟨ye, rfl, hb1e, hb2e, HDe, HOe, HEe, HPe⟩ := hcut
                by_cases hgt2 : ye < xv
                · have bg : decide ((ye : Int) < (xv : Int)) = true := decide_eq_true (by omega)
                  go_upto_region 21 with fail
                  go_cut [] (fun wx => Aside0 (Srt.Dat wx A off T C (Go.Sort.swp dk (ye) (a))) ∧ Aside0 (Srt.Only A w wx))
                  case first =>
                    have HBI := Aside0.mk (show ye < dk.size by rw [HSk.out]; omega)
                    have HBJ := Aside0.mk (show a < dk.size by rw [HSk.out]; omega)
                    have hP := HDe.out.cell (i := ye) (by rw [HSk.out]; omega)
                    obtain ⟨P, eP⟩ : ∃ z_, z_ = dk[ye]! := ⟨_, rfl⟩
                    rw [← eP] at hP
                    have EP := Aside0.mk eP
                    clear eP
                    have hR := HDe.out.cell (i := a) (by rw [HSk.out]; omega)
                    obtain ⟨R, eR⟩ : ∃ z_, z_ = dk[a]! := ⟨_, rfl⟩
                    rw [← eR] at hR
                    have ER := Aside0.mk eR
                    clear eR
                    have hFP := fun k => HDe.out.frozen k
                    have np0 : (0 : Int) ≤ (ye : Int) := by omega
                    have np1 : (ye : Int) < (n : Int) := by omega
                    have nr0 : (0 : Int) ≤ (a : Int) := by omega
                    have nr1 : (a : Int) < (n : Int) := by omega
                    by_cases hsm : ye = a
                    · subst hsm
                      obtain rfl : P = R := EP.out.trans ER.out.symm
                      clear hR
                      go_region
                      go_wp2_with fail
                      go_meet
                      have hsw := (HDe.out.swap (i := ye) (j := ye) HBI.out HBJ.out).drew
                      rw [← EP.out] at hsw
                      exact ⟨⟨hsw⟩, ⟨(Srt.only_swap HOe.out _ _ _ _).drew⟩⟩
                    · go_region
                      go_wp2_with fail
                      go_meet
                      have hsw := (HDe.out.swap (i := ye) (j := a) HBI.out HBJ.out).drew
                      rw [← EP.out, ← ER.out] at hsw
                      exact ⟨⟨hsw⟩, ⟨(Srt.only_swap HOe.out _ _ _ _).drew⟩⟩
                  case rest =>
                    obtain ⟨HD8, HO8⟩ := hcut
                    have hres := Srt.pl_end HEv.out HEe.out hgt2
                    rw [HEk.out, HZ2.out] at hres
                    have HRES := Aside0.mk hres
                    clear hres
                    go_wp2
                    go_ret2
                    rw [Srt.part_go HZ.out HEU.out HED.out (by omega) HRES.out]
                    exact ⟨rfl, HD8.out, HO8.out⟩
                · have bg : decide ((ye : Int) < (xv : Int)) = false := decide_eq_false (by omega)
                  have hxy : xv ≠ ye := by
                    rintro rfl
                    have h1 := HPv.out (by omega)
                    have h2 := HPe.out (by omega)
                    simp only at h1 h2
                    rw [h1] at h2
                    exact absurd h2 (by simp)
                  obtain ⟨k1, rfl⟩ : ∃ k1, gk = k1 + 1 := ⟨gk - 1, by omega⟩
                  go_wp2_with fail
                  have hP := HDe.out.cell (i := xv) (by rw [HSk.out]; omega)
                  obtain ⟨P, eP⟩ : ∃ z_, z_ = dk[xv]! := ⟨_, rfl⟩
                  rw [← eP] at hP
                  have EP := Aside0.mk eP
                  clear eP
                  have hR := HDe.out.cell (i := ye) (by rw [HSk.out]; omega)
                  obtain ⟨R, eR⟩ : ∃ z_, z_ = dk[ye]! := ⟨_, rfl⟩
                  rw [← eR] at hR
                  have ER := Aside0.mk eR
                  clear eR
                  have hFP := fun k => HDe.out.frozen k
                  have np0 : (0 : Int) ≤ (xv : Int) := by omega
                  have np1 : (xv : Int) < (n : Int) := by omega
                  have nr0 : (0 : Int) ≤ (ye : Int) := by omega
                  have nr1 : (ye : Int) < (n : Int) := by omega
                  go_region
                  have hsw := (HDe.out.swap (i := xv) (j := ye) (by rw [HSk.out]; omega) (by rw [HSk.out]; omega)).drew
                  rw [← EP.out, ← ER.out] at hsw
                  have HSW := Aside0.mk hsw
                  clear hsw
                  go_wp2
                  go_roundg k1
                  case measure => omega
                  case rel => exact ⟨xv + 1, ye - 1, Go.Sort.swp dk xv ye, by go_num, by congr 1; omega, by omega, by omega, by omega, by omega, ⟨by rw [Srt.swp_size, HSk.out]⟩, HSW, ⟨(Srt.only_swap HOe.out _ _ _ _).drew⟩, ⟨by rw [← HEk.out, Srt.pl_go HEv.out HEe.out (by omega)]⟩⟩


/-! ### slices_pdqsortOrdered_uint64: function 112 -/
-- by hand
/-- What stands behind a row that was sorted from a on up to b. -/
def SortPost (A off : Nat) (T : TypeId) (C : Array Value) (d : Array Int) (a b : Nat) (w : World) (e : Ending) (w' : World) : Prop := e = .returned (.tuple #[]) ∧ ∃ R : Array Int, (R.size = d.size ∧ Go.Sort.PermIn a b d R ∧ Go.Sort.SortedIn Go.Sort.ltInt a b R) ∧ Srt.Dat w' A off T C R ∧ Srt.Only A w w'
set_option maxRecDepth 100000 in
set_option maxHeartbeats 32000000 in
theorem slices_pdqsortOrdered_uint64.calls (N : Nat) : ∀ {A off cap a b lim : Nat} {T : TypeId} {C : Array Value} {d : Array Int} {w : World} (_ : b - a < N) (hD : Srt.Dat w A off T C d) (hab : a ≤ b) (hb : b ≤ d.size) (hsz : d.size < 65536) (hlim : lim ≤ 64) (hB : Go.Sort.Below Go.Sort.ltInt a b d),
    Calls Try.prog 112 #[.slice (some ⟨A, off, none⟩) d.size cap, .int .i64 (a : Int), .int .i64 (b : Int), .int .i64 (lim : Int)] w (SortPost A off T C d a b w) := by
  induction N with
  | zero => intro A off cap a b lim T C d w h; exact absurd h (by omega)
  | succ N ih =>
  intro A off cap a b lim T C d w hN hD hab hb hsz hlim hB
  have IH := Aside0.mk @ih
  clear ih
  have HD := Aside0.mk hD
  obtain ⟨n, hn⟩ : ∃ n, n = d.size := ⟨_, rfl⟩
  have HN := Aside0.mk hn
  have HI := Aside0.mk (Srt.PInv.start hn.symm hB)
  rw [← hn] at hb hsz ⊢
  clear hD hn hB
  go_enter Try.func112, Try.ntmps112
  go_wp2
  go_loopg [1, 2, 3, 8, 9] (N + 1) (fun kq v1 v2 v3 v8 v9 w' => ∃ (a1 b1 l1 : Nat) (wb wp : Bool) (dk : Array Int), v1 = .int .i64 (a1 : Int) ∧ v2 = .int .i64 (b1 : Int) ∧ v3 = .int .i64 (l1 : Int) ∧ v8 = .bool wb ∧ v9 = .bool wp ∧ a1 ≤ b1 ∧ b1 ≤ n ∧ l1 ≤ 64 ∧ b1 - a1 < kq ∧ kq ≤ N + 1 ∧ Aside0 (Srt.Dat w' A off T C dk) ∧ Aside0 (Srt.Only A w w') ∧ Aside0 (Srt.PInv n a b d a1 b1 dk))
  case atStart => exact ⟨a, b, lim, true, true, d, rfl, rfl, rfl, rfl, rfl, hab, hb, hlim, hN, Nat.le_refl _, HD, ⟨Mut.refl _ _⟩, HI⟩
  case round =>
    obtain ⟨a1, b1, l1, wb, wp, dk, rfl, rfl, rfl, rfl, rfl, hab1, hbn, hl1, hk, hkN, HDk, HOk, HIk⟩ := hrel
    obtain ⟨k1, rfl⟩ : ∃ k1, gk = k1 + 1 := ⟨gk - 1, by omega⟩
    have HAB := Aside0.mk hab
    obtain ⟨ln, hln⟩ : ∃ ln, ln = b1 - a1 := ⟨_, rfl⟩
    have e0 : (b1 : Int) - (a1 : Int) = (ln : Int) := by omega
    have lnn : (ln : Int) ≤ 65536 := by omega
    have ln0 : (0 : Int) ≤ (ln : Int) := by omega
    clear hab hb
    by_cases hsm : ln ≤ 12
    · have b12 : decide ((ln : Int) ≤ 12) = true := decide_eq_true (by omega)
      have hi := slices_insertionSortOrdered_uint64.calls (cap := cap) HDk.out hab1 (by rw [HIk.out.size]; exact hbn) (by rw [HIk.out.size]; omega)
      rw [HIk.out.size] at hi
      have HC := Aside0.mk hi
      have HR := Aside0.mk (HIk.out.done (Go.Sort.insertionSort_holds Go.Sort.swo_ltInt dk a1 b1 hab1 (by rw [HIk.out.size]; exact hbn)))
      clear hi
      go_wp2_with (go_at_call 128; (with_reducible refine HC.out.mono ?_); rintro e w2 ⟨rfl, g1, g2⟩)
      refine bodyPost_ret (results_none rfl _ _ _) rfl ?_
      exact ⟨rfl, _, ⟨HR.out.1.trans HN.out, HR.out.2⟩, g1, HOk.out.trans g2⟩
    · have b12 : decide ((ln : Int) ≤ 12) = false := decide_eq_false (by omega)
      have h12 : a1 + 12 < b1 := by omega
      by_cases hl0 : l1 = 0
      · have bl : ((l1 : Int) == 0) = true := beq_iff_eq.2 (by omega)
        have hi := slices_heapSortOrdered_uint64.calls (cap := cap) HDk.out (show a1 < b1 by omega) (by rw [HIk.out.size]; exact hbn) (by rw [HIk.out.size]; omega)
        rw [HIk.out.size] at hi
        have HC := Aside0.mk hi
        have HR := Aside0.mk (HIk.out.done (Go.Sort.heapSort_holds Go.Sort.swo_ltInt dk a1 b1 hab1 (by rw [HIk.out.size]; exact hbn)))
        clear hi hl0
        go_wp2_with (go_at_call 129; (with_reducible refine HC.out.mono ?_); rintro e w2 ⟨rfl, g1, g2⟩)
        refine bodyPost_ret (results_none rfl _ _ _) rfl ?_
        exact ⟨rfl, _, ⟨HR.out.1.trans HN.out, HR.out.2⟩, g1, HOk.out.trans g2⟩
      · have bl : ((l1 : Int) == 0) = false := beq_eq_false_iff_ne.2 (by omega)
        clear hln
        go_upto_if 35 with (fail)
        go_cut [3] (fun v3 wx => ∃ (l2 : Nat) (d1 : Array Int), v3 = .int .i64 (l2 : Int) ∧ l2 ≤ 64 ∧ Aside0 (Srt.Dat wx A off T C d1) ∧ Aside0 (Srt.Only A w wx) ∧ Aside0 (Srt.PInv n a b d a1 b1 d1))
        case first =>
          cases wb with
          | true =>
            go_wp2_with fail
            go_meet
            exact ⟨l1, dk, rfl, hl1, HDk, HOk, HIk⟩
          | false =>
            have hi := slices_breakPatternsOrdered_uint64.calls (cap := cap) HDk.out h12 (by rw [HIk.out.size]; exact hbn) (by rw [HIk.out.size]; exact hsz)
            rw [HIk.out.size] at hi
            have HC := Aside0.mk hi
            have HR := Aside0.mk (HIk.out.perm hbn (Go.Sort.breakPatterns_holds dk a1 b1 hab1 (by rw [HIk.out.size]; exact hbn)))
            clear hi
            go_wp2_with (go_at_call 130; (with_reducible refine HC.out.mono ?_); rintro e w2 ⟨rfl, g1, g2⟩; have G1 := Aside0.mk g1; have G2 := Aside0.mk g2; clear g1 g2)
            go_meet
            exact ⟨l1 - 1, _, by congr 1; omega, by omega, G1, ⟨HOk.out.trans G2.out⟩, HR⟩
        case rest =>
          obtain ⟨l2, d1, rfl, hl2, HD1, HO1, HI1⟩ := hcut
          have hl20 : (0 : Int) ≤ (l2 : Int) := by omega
          have hi := slices_choosePivotOrdered_uint64.calls (cap := cap) HD1.out h12 (by rw [HI1.out.size]; exact hbn) (by rw [HI1.out.size]; omega)
          have hcp := Go.Sort.choosePivot_holds Go.Sort.ltInt d1 a1 b1 (by omega)
          rw [HI1.out.size] at hi
          unfold ChoosePost at hi
          generalize Go.Sort.choosePivot Go.Sort.ltInt d1 a1 b1 = cp at hi hcp
          obtain ⟨pv0, h0⟩ := cp
          simp only at hi hcp
          obtain ⟨hcp1, hcp2⟩ := hcp
          generalize Srt.hintNo h0 = hh at hi
          have HC := Aside0.mk hi
          clear hi
          go_upto_if 50 with (go_at_call 131; (with_reducible refine HC.out.mono ?_); rintro e w2 ⟨rfl, g1, g2⟩; have G1 := Aside0.mk g1; have G2 := Aside0.mk (HO1.out.trans g2); clear g1 g2)
          go_cut [11, 12] (fun v11 v12 wx => ∃ (pv : Nat) (h : Int) (d2 : Array Int), v11 = .int .i64 (pv : Int) ∧ v12 = .int .i64 h ∧ a1 ≤ pv ∧ pv < b1 ∧ Aside0 (Srt.Dat wx A off T C d2) ∧ Aside0 (Srt.Only A w wx) ∧ Aside0 (Srt.PInv n a b d a1 b1 d2))
          case first =>
            by_cases hdec : hh = 2
            · have hi2 : ∀ W : World, Srt.Dat W A off T C d1 → _ := fun W hW => slices_reverseRangeOrdered_uint64.calls (cap := cap) hW (show a1 < b1 by omega) (by rw [HI1.out.size]; exact hbn) (by rw [HI1.out.size]; omega)
              rw [HI1.out.size] at hi2
              have HC2 := Aside0.mk hi2
              have HR := Aside0.mk (HI1.out.perm hbn (Go.Sort.reverseRange_holds d1 a1 b1 hab1 (by rw [HI1.out.size]; exact hbn)))
              have bh : (hh == 2) = true := beq_iff_eq.2 hdec
              clear hi2 hdec
              go_wp2_with (go_at_call 132; (with_reducible refine (HC2.out _ G1.out).mono ?_); rintro e w3 ⟨rfl, g1, g2⟩; have G3 := Aside0.mk g1; have G4 := Aside0.mk g2; clear g1 g2)
              go_meet
              exact ⟨(b1 - 1) - (pv0 - a1), 1, _, by congr 1; omega, rfl, by omega, by omega, G3, ⟨G2.out.trans G4.out⟩, HR⟩
            · have bh : (hh == 2) = false := beq_eq_false_iff_ne.2 hdec
              clear hdec
              go_wp2_with fail
              go_meet
              exact ⟨pv0, hh, d1, rfl, rfl, hcp1, hcp2, G1, G2, HI1⟩
          case rest =>
            obtain ⟨pv, h, d2, rfl, rfl, hp1, hp2, HD2, HO2, HI2⟩ := hcut
            go_upto_region 15 with fail
            go_cut [68] (fun v68 wx => ∃ c : Bool, v68 = .bool c ∧ (c = true → wb = true ∧ wp = true ∧ h = 1) ∧ Aside0 (Srt.Dat wx A off T C d2) ∧ Aside0 (Srt.Only A w wx))
            case first =>
              cases wb with
              | false =>
                go_wp2_with fail
                go_meet
                exact ⟨false, rfl, fun h => absurd h (by simp), HD2, HO2⟩
              | true =>
                cases wp with
                | false =>
                  go_wp2_with fail
                  go_meet
                  exact ⟨false, rfl, fun h => absurd h (by simp), HD2, HO2⟩
                | true =>
                  by_cases hh1 : h = 1
                  · have bh : (h == 1) = true := beq_iff_eq.2 hh1
                    have HH1 := Aside0.mk hh1
                    clear hh1
                    go_wp2_with fail
                    go_meet
                    exact ⟨true, rfl, fun _ => ⟨by trivial, by trivial, HH1.out⟩, HD2, HO2⟩
                  · have bh : (h == 1) = false := beq_eq_false_iff_ne.2 hh1
                    clear hh1
                    go_wp2_with fail
                    go_meet
                    exact ⟨false, rfl, fun h => absurd h (by simp), HD2, HO2⟩
            case rest =>
            obtain ⟨c68, rfl, hc68, HD2, HO2⟩ := hcut
            go_upto_if 68 with (fail)
            go_cut [] (fun wx => ∃ d3 : Array Int, Aside0 (Srt.Dat wx A off T C d3) ∧ Aside0 (Srt.Only A w wx) ∧ Aside0 (Srt.PInv n a b d a1 b1 d3))
            case first =>
              cases c68 with
              | false =>
                go_wp2_with fail
                go_meet
                exact ⟨d2, HD2, HO2, HI2⟩
              | true =>
                have hi := slices_partialInsertionSortOrdered_uint64.calls (cap := cap) HD2.out (show a1 < b1 by omega) (by rw [HI2.out.size]; exact hbn) (by rw [HI2.out.size]; omega)
                obtain ⟨hq1, hq2⟩ := Go.Sort.partialInsertionSort_holds Go.Sort.swo_ltInt d2 a1 b1 (show a1 < b1 by omega) (by rw [HI2.out.size]; exact hbn) HI2.out.bel
                rw [HI2.out.size] at hi
                generalize Go.Sort.partialInsertionSort Go.Sort.ltInt d2 a1 b1 = pr at hi hq1 hq2
                obtain ⟨d3, bb⟩ := pr
                simp only at hi hq1 hq2
                have HC := Aside0.mk hi
                have HQ1 := Aside0.mk hq1
                have HQ2 := Aside0.mk hq2
                clear hi hq1 hq2 hc68
                cases bb with
                | true =>
                  go_wp2_with (go_at_call 133; (with_reducible refine HC.out.mono ?_); rintro e w2 ⟨rfl, g1, g2⟩; have G1 := Aside0.mk g1; have G2 := Aside0.mk g2; clear g1 g2)
                  refine bodyPost_ret (results_none rfl _ _ _) rfl ?_
                  have HR := HI2.out.done ⟨HQ1.out, HQ2.out (by trivial)⟩
                  exact ⟨rfl, _, ⟨HR.1.trans HN.out, HR.2⟩, G1.out, HO2.out.trans G2.out⟩
                | false =>
                  go_wp2_with (go_at_call 133; (with_reducible refine HC.out.mono ?_); rintro e w2 ⟨rfl, g1, g2⟩; have G1 := Aside0.mk g1; have G2 := Aside0.mk g2; clear g1 g2)
                  go_meet
                  exact ⟨d3, G1, ⟨HO2.out.trans G2.out⟩, ⟨HI2.out.perm hbn HQ1.out⟩⟩
            case rest =>
              obtain ⟨d3, HD3, HO3, HI3⟩ := hcut
              clear hc68 hcp1 hcp2 hsm hl0
              have hpart : ∀ W : World, Srt.Dat W A off T C d3 → _ := fun W hW => slices_partitionOrdered_uint64.calls (cap := cap) hW hp1 hp2 (by rw [HI3.out.size]; exact hbn) (by rw [HI3.out.size]; omega)
              obtain ⟨x1, x2, x3, x4, x5, x6, x7⟩ := HI3.out.part hp1 hp2 hbn
              rw [HI3.out.size] at hpart
              generalize Go.Sort.partition Go.Sort.ltInt d3 a1 b1 pv = pt at hpart x1 x2 x3 x4 x5 x6 x7
              obtain ⟨mid, ap, d4⟩ := pt
              simp only at hpart x1 x2 x3 x4 x5 x6 x7
              have HPT := Aside0.mk hpart
              have X3 := Aside0.mk x3
              have X4 := Aside0.mk x4
              have X5 := Aside0.mk x5
              have X6 := Aside0.mk x6
              have X7 := Aside0.mk x7
              clear hpart x3 x4 x5 x6 x7
              have hrl : ∀ W : World, Srt.Dat W A off T C d4 → _ := fun W hW => IH.out (cap := cap) (a := a1) (b := mid) (lim := l2) (by omega) hW x1 (by rw [X3.out]; omega) (by rw [X3.out]; exact hsz) hl2 X4.out
              have hrr : ∀ W : World, Srt.Dat W A off T C d4 → _ := fun W hW => IH.out (cap := cap) (a := mid + 1) (b := b1) (lim := l2) (by omega) hW (by omega) (by rw [X3.out]; exact hbn) (by rw [X3.out]; exact hsz) hl2 X5.out
              rw [X3.out] at hrl hrr
              rw [show ((mid + 1 : Nat) : Int) = (mid : Int) + 1 from rfl] at hrr
              have HRL := Aside0.mk hrl
              have HRR := Aside0.mk hrr
              clear hrl hrr
              by_cases ha0 : a1 = 0
              · have ba : decide ((0 : Int) < (a1 : Int)) = false := decide_eq_false (by omega)
                have ba2 : decide (0 < a1) = false := decide_eq_false (by omega)
                clear ha0
                have mm : (mid : Int) ≤ 65536 := by omega
                by_cases hlt : mid - a1 < b1 - mid
                · have bs : decide ((mid : Int) - (a1 : Int) < (b1 : Int) - (mid : Int)) = true := decide_eq_true (by omega)
                  go_wp2_with fail
                  go_quiet (fail)
                  go_wp2_with (first
                    | (go_at_call 136; (with_reducible refine (HPT.out _ (HD3.out.drewN _)).mono ?_); rintro e w4 ⟨rfl, g1, g2⟩; have Q1 := Aside0.mk g1; have QO := Aside0.mk ((HO3.out.drewN _).trans g2); clear g1 g2)
                    | (go_at_call 112; (with_reducible refine (HRL.out _ Q1.out).mono ?_); rintro e w5 ⟨rfl, R, g0, g1, g2⟩; have R0 := Aside0.mk g0; have R1 := Aside0.mk g1; have R2 := Aside0.mk g2; clear g0 g1 g2))
                  go_roundg k1
                  case measure => omega
                  case rel => exact ⟨mid + 1, b1, l2, _, _, _, by go_num, rfl, rfl, rfl, rfl, by omega, hbn, hl2, by omega, by omega, R1, ⟨QO.out.trans R2.out⟩, ⟨X6.out _ R0.out.2.1 R0.out.2.2⟩⟩
                · have bs : decide ((mid : Int) - (a1 : Int) < (b1 : Int) - (mid : Int)) = false := decide_eq_false (by omega)
                  go_wp2_with fail
                  go_quiet (fail)
                  go_wp2_with (first
                    | (go_at_call 136; (with_reducible refine (HPT.out _ (HD3.out.drewN _)).mono ?_); rintro e w4 ⟨rfl, g1, g2⟩; have Q1 := Aside0.mk g1; have QO := Aside0.mk ((HO3.out.drewN _).trans g2); clear g1 g2)
                    | (go_at_call 112; (with_reducible refine (HRR.out _ Q1.out).mono ?_); rintro e w5 ⟨rfl, R, g0, g1, g2⟩; have R0 := Aside0.mk g0; have R1 := Aside0.mk g1; have R2 := Aside0.mk g2; clear g0 g1 g2))
                  go_roundg k1
                  case measure => omega
                  case rel => exact ⟨a1, mid, l2, _, _, _, rfl, rfl, rfl, rfl, rfl, x1, by omega, hl2, by omega, by omega, R1, ⟨QO.out.trans R2.out⟩, ⟨X7.out _ R0.out.2.1 R0.out.2.2⟩⟩
              · have ba : decide ((0 : Int) < (a1 : Int)) = true := decide_eq_true (by omega)
                have ba2 : decide (0 < a1) = true := decide_eq_true (by omega)
                have hX := HD3.out.cell (i := a1 - 1) (by rw [HI3.out.size]; omega)
                have hY := HD3.out.cell (i := pv) (by rw [HI3.out.size]; omega)
                obtain ⟨X, eX⟩ : ∃ z_, z_ = d3[a1 - 1]! := ⟨_, rfl⟩
                obtain ⟨Y, eY⟩ : ∃ z_, z_ = d3[pv]! := ⟨_, rfl⟩
                rw [← eX] at hX
                rw [← eY] at hY
                have EX := Aside0.mk eX
                have EY := Aside0.mk eY
                have e3 : IntKind.i64.wrap ((a1 : Int) - 1) = (a1 : Int) - 1 := by rw [IntKind.wrap_i64]; omega
                have t3 : ((a1 : Int) - 1).toNat = a1 - 1 := by omega
                have n1 : (a1 : Int) - 1 < (n : Int) := by omega
                have n2 : (pv : Int) < (n : Int) := by omega
                have n3 : (0 : Int) ≤ (a1 : Int) - 1 := by omega
                clear eX eY
                cases hl : Go.Sort.ltInt X Y with
                | false =>
                  obtain ⟨y1, y2, y3⟩ := HI3.out.eq (by omega) hp1 hp2 hbn (by rw [← EX.out, ← EY.out]; exact hl)
                  have hpe : ∀ W : World, Srt.Dat W A off T C d3 → _ := fun W hW => slices_partitionEqualOrdered_uint64.calls (cap := cap) hW hp1 hp2 (by rw [HI3.out.size]; exact hbn) (by rw [HI3.out.size]; omega)
                  rw [HI3.out.size] at hpe
                  generalize Go.Sort.partitionEqual Go.Sort.ltInt d3 a1 b1 pv = pe at hpe y1 y2 y3
                  obtain ⟨me, d5⟩ := pe
                  simp only at hpe y1 y2 y3
                  have HPE := Aside0.mk hpe
                  have Y3 := Aside0.mk y3
                  clear hpe y3
                  go_wp2_with fail
                  go_quiet ((go_at_call 134; exact Calls.quiet_of_same (cmp_Less_uint64.calls _ _ _)))
                  go_wp2_with (go_at_call 135; (with_reducible refine (HPE.out _ (HD3.out.drewN _)).mono ?_); rintro e w4 ⟨rfl, g1, g2⟩; have Q1 := Aside0.mk g1; have QO := Aside0.mk ((HO3.out.drewN _).trans g2); clear g1 g2)
                  go_roundg k1
                  case measure => omega
                  case rel => exact ⟨me, b1, l2, wb, wp, d5, rfl, rfl, rfl, rfl, rfl, y2, hbn, hl2, by omega, by omega, Q1, QO, Y3⟩
                | true =>
                  have mm : (mid : Int) ≤ 65536 := by omega
                  by_cases hlt : mid - a1 < b1 - mid
                  · have bs : decide ((mid : Int) - (a1 : Int) < (b1 : Int) - (mid : Int)) = true := decide_eq_true (by omega)
                    go_wp2_with fail
                    go_quiet ((go_at_call 134; exact Calls.quiet_of_same (cmp_Less_uint64.calls _ _ _)))
                    go_wp2_with (first
                      | (go_at_call 136; (with_reducible refine (HPT.out _ (HD3.out.drewN _)).mono ?_); rintro e w4 ⟨rfl, g1, g2⟩; have Q1 := Aside0.mk g1; have QO := Aside0.mk ((HO3.out.drewN _).trans g2); clear g1 g2)
                      | (go_at_call 112; (with_reducible refine (HRL.out _ Q1.out).mono ?_); rintro e w5 ⟨rfl, R, g0, g1, g2⟩; have R0 := Aside0.mk g0; have R1 := Aside0.mk g1; have R2 := Aside0.mk g2; clear g0 g1 g2))
                    go_roundg k1
                    case measure => omega
                    case rel => exact ⟨mid + 1, b1, l2, _, _, _, by go_num, rfl, rfl, rfl, rfl, by omega, hbn, hl2, by omega, by omega, R1, ⟨QO.out.trans R2.out⟩, ⟨X6.out _ R0.out.2.1 R0.out.2.2⟩⟩
                  · have bs : decide ((mid : Int) - (a1 : Int) < (b1 : Int) - (mid : Int)) = false := decide_eq_false (by omega)
                    go_wp2_with fail
                    go_quiet ((go_at_call 134; exact Calls.quiet_of_same (cmp_Less_uint64.calls _ _ _)))
                    go_wp2_with (first
                      | (go_at_call 136; (with_reducible refine (HPT.out _ (HD3.out.drewN _)).mono ?_); rintro e w4 ⟨rfl, g1, g2⟩; have Q1 := Aside0.mk g1; have QO := Aside0.mk ((HO3.out.drewN _).trans g2); clear g1 g2)
                      | (go_at_call 112; (with_reducible refine (HRR.out _ Q1.out).mono ?_); rintro e w5 ⟨rfl, R, g0, g1, g2⟩; have R0 := Aside0.mk g0; have R1 := Aside0.mk g1; have R2 := Aside0.mk g2; clear g0 g1 g2))
                    go_roundg k1
                    case measure => omega
                    case rel => exact ⟨a1, mid, l2, _, _, _, rfl, rfl, rfl, rfl, rfl, x1, by omega, hl2, by omega, by omega, R1, ⟨QO.out.trans R2.out⟩, ⟨X7.out _ R0.out.2.1 R0.out.2.2⟩⟩
set_option maxRecDepth 100000 in
set_option maxHeartbeats 4000000 in
theorem slices_pdqsortOrdered_uint64.nil (l : Int) (w : World) : Calls Try.prog 112 #[.slice none 0 0, .int .i64 0, .int .i64 0, .int .i64 l] w fun e w' => e = .returned (.tuple #[]) ∧ w' = w := by
  go_enter Try.func112, Try.ntmps112
  go_wp2
  go_loopg [1, 2, 3, 8, 9] 1 (fun kq v1 v2 v3 v8 v9 w' => v1 = .int .i64 0 ∧ v2 = .int .i64 0 ∧ w' = w)
  case atStart => exact ⟨rfl, rfl, rfl⟩
  case round =>
    obtain ⟨rfl, rfl, rfl⟩ := hrel
    go_wp2_with (go_at_call 128; (with_reducible refine (slices_insertionSortOrdered_uint64.nil _).mono ?_); rintro e w2 ⟨rfl, rfl⟩)
    refine bodyPost_ret (results_none rfl _ _ _) rfl ?_
    exact ⟨rfl, rfl⟩


/-! ### slices_Sort_uint64_uint64: function 95 -/
-- by hand
set_option maxRecDepth 100000 in
set_option maxHeartbeats 4000000 in
theorem slices_Sort_uint64_uint64.nil (w : World) : Calls Try.prog 95 #[.slice none 0 0] w fun e w' => e = .returned (.tuple #[]) ∧ w' = w := by
  have h1 := fun W => bits_Len.calls (x := 0) (w := W) (by decide)
  rw [show ((0 : Nat) : Int) = 0 from rfl] at h1
  have H1 := Aside0.mk h1
  clear h1
  go_enter Try.func95, Try.ntmps95
  go_wp2_with (first
    | (go_at_call 113; (with_reducible refine (H1.out _).mono ?_); rintro e w1 ⟨rfl, rfl⟩)
    | (go_at_call 112; (with_reducible refine (slices_pdqsortOrdered_uint64.nil _ _).mono ?_); rintro e w1 ⟨rfl, rfl⟩))
  go_end0
  exact ⟨rfl, rfl⟩
set_option maxRecDepth 100000 in
set_option maxHeartbeats 4000000 in
theorem slices_Sort_uint64_uint64.calls {A off cap : Nat} {T : TypeId} {C : Array Value} {d : Array Int} {w : World} (hD : Srt.Dat w A off T C d) (hsz : d.size < 65536) :
    Calls Try.prog 95 #[.slice (some ⟨A, off, none⟩) d.size cap] w fun e w' => e = .returned (.tuple #[]) ∧ ∃ R : Array Int, (R.toList.Perm d.toList ∧ R.toList.Pairwise (· ≤ ·)) ∧ Srt.Dat w' A off T C R ∧ Srt.Only A w w' := by
  have h1 := fun W => bits_Len.calls (x := d.size) (w := W) hsz
  have h16 := bitsLen_16 hsz
  have h2 := slices_pdqsortOrdered_uint64.calls (d.size + 1) (cap := cap) (a := 0) (b := d.size) (lim := Go.Sort.bitsLen d.size) (by omega) hD (Nat.zero_le _) (Nat.le_refl _) hsz (by omega) (.inl rfl)
  rw [show ((0 : Nat) : Int) = 0 from rfl] at h2
  generalize Go.Sort.bitsLen d.size = l at h1 h16 h2
  have H1 := Aside0.mk h1
  have H2 := Aside0.mk (h2.mono (R' := fun e w' => e = .returned (.tuple #[]) ∧ ∃ R : Array Int, (R.toList.Perm d.toList ∧ R.toList.Pairwise (· ≤ ·)) ∧ Srt.Dat w' A off T C R ∧ Srt.Only A w w') (fun e w' ⟨g1, R, ⟨g2, g3, g4⟩, g5, g6⟩ => ⟨g1, R, Srt.sorted_list g3 g4, g5, g6⟩))
  generalize d.size = n at H1 H2 hsz
  have n0 : (0 : Int) ≤ (n : Int) := by omega
  have n1 : (n : Int) < 65536 := by omega
  clear h1 h2 hD
  go_enter Try.func95, Try.ntmps95
  go_wp2_with (first
    | (go_at_call 113; (with_reducible refine (H1.out _).mono ?_); rintro e w1 ⟨rfl, rfl⟩)
    | (go_at_call 112; (with_reducible refine H2.out.mono ?_); rintro e w1 ⟨rfl, R, g0, g1, g2⟩; have G0 := Aside0.mk g0; have G1 := Aside0.mk g1; have G2 := Aside0.mk g2; clear g0 g1 g2))
  go_end0
  exact ⟨rfl, R, G0.out, G1.out, G2.out⟩

end Go.Proofs.Ytdjbpdahdakfjaa.PLook
