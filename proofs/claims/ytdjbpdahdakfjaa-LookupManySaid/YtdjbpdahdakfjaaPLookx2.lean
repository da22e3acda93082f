-- Written by a program of this session (a turned copy of the kit's printer, texts of this session's own for functions that it does not take).
import Derived.Test.YtdjbpdahdakfjaaPLookx0
import Derived.Test.YtdjbpdahdakfjaaPLookx1
namespace Go.Proofs.Ytdjbpdahdakfjaa.PLook
open Go.RowKit Go.Proofs.YtdjbpdahdakfjaaH Go.Proofs.YtdjbpdahdakfjaaW.PrintWords Go.Proofs.YtdjbpdahdakfjaaW.PrintLast Go.Proofs.YtdjbpdahdakfjaaW.PrintMore
attribute [local go_sem] max2_int min2_int max_two min_two max_three min_three max_four min_four   -- for this text's walks alone
set_option linter.unusedVariables false
set_option linter.unusedSimpArgs false


/-! ### lookup_Table_Put: function 46 -/
-- by hand
/-- What stands behind a Put. -/
def PutPost (g : Nat) (t : Tab.Tb) (key node : Int) (w : World) (e : Ending) (w' : World) : Prop := ∃ (b : Bool) (cs' : Array Value) (t' : Tab.Tb), e = .returned (.bool b) ∧ Tab.TbAt 111 107 w' g cs' t' ∧ Tab.PutEnd tabHome t t' key node b ∧ Mut (t.foot g) w (t'.foot g) w'
set_option maxRecDepth 100000 in
set_option maxHeartbeats 4000000 in
theorem lookup_Table_Put.old {g : Nat} {cs : Array Value} {t : Tab.Tb} {w : World} (key node : Int) (hT : Tab.TbAt 111 107 w g cs t) (hI : Tab.TInv tabHome 0 t) (hv0 : 0 ≤ t.moves) (hv1 : t.moves + 4 < 18446744073709551616)
    (ho : Tab.Old tabHome t) {i : Nat} (hi : i < t.old.sl.length) (ht : (Tab.at_ t.old.sl i).t = true) (hk : (Tab.at_ t.old.sl i).k = key)
    (hf : Calls Try.prog 85 #[.pointer (some ⟨g, 3, none⟩), .int .u64 key] w fun e w' => e = .returned (.tuple #[.int .i64 (i : Int), .bool true]) ∧ ∃ nd, w' = w.drewN nd) :
    Calls Try.prog 46 #[.pointer (some ⟨g, 0, none⟩), .int .u64 key, .int .i32 node] w (PutPost g t key node w) := by
  have HT := Aside0.mk hT
  have HI := Aside0.mk hI
  have HV0 := Aside0.mk hv0
  have HV1 := Aside0.mk hv1
  have HP := Aside0.mk (hI.putOld ho hi ht hk node)
  have HF := Aside0.mk hf
  have HNW := Aside0.mk (show (false = true) ↔ ∀ v, ¬ t.has key v from ⟨fun h => absurd h (by simp), fun h => absurd (show t.has key (Tab.at_ t.old.sl i).n from .inr (hk ▸ Tab.Has.mk hi ht)) (h _)⟩)
  obtain ⟨A, hA⟩ := Option.ne_none_iff_exists'.1 ho.fit.adr
  have HN := Aside0.mk (fun nd => (hT.drewN nd).node_ hA hi ht hk node)
  have hv : t.old.val = .slice (some ⟨A, 0, none⟩) t.old.sl.length t.old.sl.length := by unfold Tab.Rw.val; rw [hA]; rfl
  have hc1 : ∀ nd, (w.drewN nd).cell? ⟨g, 4, none⟩ = some (.slice (some ⟨A, 0, none⟩) t.old.sl.length t.old.sl.length) := fun nd => ((blk_cell hT.old.blk 4).trans hT.old.c1).trans (by rw [hv])
  obtain ⟨_, hs1, _⟩ := Tab.arr_cell (hT.old.arr A hA).1 hi
  have hs : ∀ nd, (w.drewN nd).cell? ⟨A, i * 3 + 1, none⟩ = some (.int .i32 (Tab.at_ t.old.sl i).n) := fun nd => hs1
  have hfA : ∀ nd j, (w.drewN nd).frozen? ⟨A, j, none⟩ = false := fun nd j => blk_frozen (hT.old.arr A hA).1 j
  have hsm := ho.fit.small
  have HL := Aside0.mk (show t.now.sl.length ≤ 1099511627776 from Nat.le_trans hI.fit.small (by decide))
  generalize (Tab.at_ t.old.sl i).n = xn at hs
  obtain ⟨n, hn⟩ : ∃ n, n = t.old.sl.length := ⟨_, rfl⟩
  rw [← hn] at hi hc1 hsm
  have i0 : (0 : Int) ≤ (i : Int) := by omega
  have i1' : (i : Int) < (n : Int) := by omega
  clear hT hI hv0 hv1 ho ht hk hf hv hs1 hn
  go_enter_defers Try.func46, Try.ntmps46
  go_wp2_with (go_at_call 85; (with_reducible refine HF.out.mono ?_); rintro e w' ⟨rfl, ⟨nd, rfl⟩⟩)
  obtain ⟨hT2, hM2⟩ := HN.out nd
  refine leaves_one (f := 84) (args := #[.pointer (some ⟨g, 0, none⟩), .int .i64 4]) (by simp [go_sem]) (lookup_Table_move.callsD (most := 4) hT2 HP.out.inv (by decide) (by rw [HP.out.moves]; exact HV0.out) (by rw [HP.out.moves]; exact HV1.out) HL.out) ?_
  rintro e w' ⟨rfl, cs', t', h1, h2, h3⟩
  exact ⟨_, rfl, _, results_tmp rfl _ _ _, false, cs', t', rfl, h1, HP.out.moved h2 HNW.out, ((Mut.refl _ w).drewN nd).trans (hM2.trans h3)⟩
set_option maxRecDepth 100000 in
set_option maxHeartbeats 4000000 in
theorem lookup_Table_Put.now {g : Nat} {cs : Array Value} {t : Tab.Tb} {w : World} (key node : Int) (hT : Tab.TbAt 111 107 w g cs t) (hI : Tab.TInv tabHome 0 t) (hv0 : 0 ≤ t.moves) (hv1 : t.moves + 4 < 18446744073709551616)
    {j i : Nat} (hf : Calls Try.prog 85 #[.pointer (some ⟨g, 3, none⟩), .int .u64 key] w fun e w' => e = .returned (.tuple #[.int .i64 (j : Int), .bool false]) ∧ ∃ nd, w' = w.drewN nd)
    (hpr : Tab.probe t.now.sl key (t.now.sl.length + 1) (tabHome t.now.bits key) = some (i, true)) (hi : i < t.now.sl.length) (ht : (Tab.at_ t.now.sl i).t = true) (hk : (Tab.at_ t.now.sl i).k = key) :
    Calls Try.prog 46 #[.pointer (some ⟨g, 0, none⟩), .int .u64 key, .int .i32 node] w (PutPost g t key node w) := by
  have HT := Aside0.mk hT
  have HI := Aside0.mk hI
  have HV0 := Aside0.mk hv0
  have HV1 := Aside0.mk hv1
  have HP := Aside0.mk (hI.putNow hi ht hk node)
  have HF := Aside0.mk hf
  have HNW := Aside0.mk (show (false = true) ↔ ∀ v, ¬ t.has key v from ⟨fun h => absurd h (by simp), fun h => absurd (show t.has key (Tab.at_ t.now.sl i).n from .inl (hk ▸ Tab.Has.mk hi ht)) (h _)⟩)
  have hload := hI.load
  have hl1 : t.len = Tab.cnt t.now.sl + Tab.cnt t.old.sl := rfl
  have hsm := hI.fit.small
  have HL := Aside0.mk (show t.now.sl.length ≤ 1099511627776 from Nat.le_trans hsm (by decide))
  have HLL := Aside0.mk (show (t.now.sl.set i ⟨key, node, true⟩).length ≤ 1099511627776 by rw [List.length_set]; exact HL.out)
  have HM := Aside0.mk (show 0 ≤ t.now.many ∧ t.now.many ≤ 1099511627776 by rw [hI.many]; omega)
  have HPR := Aside0.mk hpr
  have HI_ := Aside0.mk hi
  have HQ := Aside0.mk (fun nd => lookup_rows_find.calls (hT.now.drewN nd) hI.fit hpr)
  clear hT hI hv0 hv1 ht hk hf hpr hi hload hl1 hsm
  go_enter_defers Try.func46, Try.ntmps46
  go_wp2_with (first
    | (go_at_call 85; (with_reducible refine HF.out.mono ?_); rintro e w' ⟨rfl, ⟨nd, rfl⟩⟩)
    | (go_at_call 85; (with_reducible refine (HQ.out _).mono ?_); rintro e w' ⟨rfl, ⟨nd2, rfl⟩⟩))
  go_quiet (fail)
  go_wp2_with (go_at_call 87; refine (lookup_rows_put.calls (node := node) (HT.out.drewN _).now HI.out.fit HPR.out HI_.out HM.out.1 HM.out.2).mono ?_; rintro e w' ⟨rfl, cs3, hr3, hcs3, hmu3⟩; obtain ⟨hT6, hM6⟩ := (HT.out.drewN _).now_ hr3 rfl hcs3 hmu3; have HT6 := Aside0.mk hT6; have HM6 := Aside0.mk hM6; clear hr3 hcs3 hmu3 hT6 hM6)
  simp only [if_true] at HT6
  refine leaves_one (f := 84) (args := #[.pointer (some ⟨g, 0, none⟩), .int .i64 4]) (by simp [go_sem]) (lookup_Table_move.callsD (most := 4) HT6.out HP.out.inv (by decide) (by rw [HP.out.moves]; exact HV0.out) (by rw [HP.out.moves]; exact HV1.out) HLL.out) ?_
  rintro e w' ⟨rfl, cs', t', h1, h2, h3⟩
  exact ⟨_, rfl, _, results_tmp rfl _ _ _, false, cs', t', rfl, h1, HP.out.moved h2 HNW.out, ((Mut.refl _ w).drewN _).trans (HM6.out.trans h3)⟩
set_option maxRecDepth 100000 in
set_option maxHeartbeats 4000000 in
theorem lookup_Table_Put.fresh {g : Nat} {cs : Array Value} {t : Tab.Tb} {w : World} (key node : Int) (hT : Tab.TbAt 111 107 w g cs t) (hI : Tab.TInv tabHome 0 t) (hv0 : 0 ≤ t.moves) (hv1 : t.moves + 4 < 18446744073709551616)
    {j i : Nat} (hf : Calls Try.prog 85 #[.pointer (some ⟨g, 3, none⟩), .int .u64 key] w fun e w' => e = .returned (.tuple #[.int .i64 (j : Int), .bool false]) ∧ ∃ nd, w' = w.drewN nd)
    (hpr : Tab.probe t.now.sl key (t.now.sl.length + 1) (tabHome t.now.bits key) = some (i, false)) (hi : i < t.now.sl.length) (ht : (Tab.at_ t.now.sl i).t = false)
    (hr : ∀ q, q < t.now.sl.length → Tab.dst t.now.sl.length q (tabHome t.now.bits key) < Tab.dst t.now.sl.length i (tabHome t.now.bits key) → (Tab.at_ t.now.sl q).t = true)
    (hno : ∀ p, p < t.now.sl.length → (Tab.at_ t.now.sl p).t = true → (Tab.at_ t.now.sl p).k ≠ key) (hno2 : ∀ v, ¬ Tab.Has t.old.sl key v) (hc : 2 * (t.len + 1) ≤ t.now.sl.length) :
    Calls Try.prog 46 #[.pointer (some ⟨g, 0, none⟩), .int .u64 key, .int .i32 node] w (PutPost g t key node w) := by
  have HT := Aside0.mk hT
  have HI := Aside0.mk hI
  have HV0 := Aside0.mk hv0
  have HV1 := Aside0.mk hv1
  have HP := Aside0.mk (hI.putNew hi ht hr hno hno2 hc node)
  have HF := Aside0.mk hf
  have HNW := Aside0.mk (show ∀ v, ¬ t.has key v from fun v h => h.elim (Tab.none_free hno v) (hno2 v))
  have hload := hI.load
  have hl1 : t.len = Tab.cnt t.now.sl + Tab.cnt t.old.sl := rfl
  have hsm := hI.fit.small
  have HL := Aside0.mk (show t.now.sl.length ≤ 1099511627776 from Nat.le_trans hsm (by decide))
  have HLL := Aside0.mk (show (t.now.sl.set i ⟨key, node, true⟩).length ≤ 1099511627776 by rw [List.length_set]; exact HL.out)
  have HM := Aside0.mk (show 0 ≤ t.now.many ∧ t.now.many ≤ 1099511627776 by rw [hI.many]; omega)
  have HPR := Aside0.mk hpr
  have HI_ := Aside0.mk hi
  have HQ := Aside0.mk (fun nd => lookup_rows_find.calls (hT.now.drewN nd) hI.fit hpr)
  have HLEN := Aside0.mk (fun nd => lookup_Table_Len.calls (hT.drewN nd) hI HL.out)
  obtain ⟨A, hA⟩ := Option.ne_none_iff_exists'.1 hI.fit.adr
  have hv : t.now.val = .slice (some ⟨A, 0, none⟩) t.now.sl.length t.now.sl.length := by unfold Tab.Rw.val; rw [hA]; rfl
  have hc1 : ∀ nd, (w.drewN nd).cell? ⟨g, 1, none⟩ = some (.slice (some ⟨A, 0, none⟩) t.now.sl.length t.now.sl.length) := fun nd => ((blk_cell hT.now.blk 1).trans hT.now.c1).trans (by rw [hv])
  obtain ⟨n, hn⟩ : ∃ n, n = t.now.sl.length := ⟨_, rfl⟩
  obtain ⟨L, hL⟩ : ∃ L, L = t.len := ⟨_, rfl⟩
  rw [← hL] at HLEN
  rw [← hn] at hc1
  have b1 : decide ((n : Int) < 2 * ((L : Int) + 1)) = false := decide_eq_false (by omega)
  have b2 : wrap64 (2 * ((L : Int) + 1)) = 2 * ((L : Int) + 1) := by unfold wrap64; omega
  have b3 : wrap64 ((L : Int) + 1) = (L : Int) + 1 := by unfold wrap64; omega
  have b4 : IntKind.i64.wrap (2 * ((L : Int) + 1)) = 2 * ((L : Int) + 1) := by rw [IntKind.wrap_i64]; omega
  have b5 : IntKind.i64.wrap ((L : Int) + 1) = (L : Int) + 1 := by rw [IntKind.wrap_i64]; omega
  clear hT hI hv0 hv1 ht hf hpr hi hload hl1 hsm hc hr hno hno2 hA hv hn hL
  go_enter_defers Try.func46, Try.ntmps46
  go_wp2_with (first
    | (go_at_call 85; (with_reducible refine HF.out.mono ?_); rintro e w' ⟨rfl, ⟨nd, rfl⟩⟩)
    | (go_at_call 85; (with_reducible refine (HQ.out _).mono ?_); rintro e w' ⟨rfl, ⟨nd2, rfl⟩⟩))
  go_quiet ((go_at_call 47; exact quiet_more (HLEN.out _)))
  go_wp2_with (go_at_call 87; refine (lookup_rows_put.calls (node := node) (HT.out.drewN _).now HI.out.fit HPR.out HI_.out HM.out.1 HM.out.2).mono ?_; rintro e w' ⟨rfl, cs3, hr3, hcs3, hmu3⟩; obtain ⟨hT6, hM6⟩ := (HT.out.drewN _).now_ hr3 rfl hcs3 hmu3; have HT6 := Aside0.mk hT6; have HM6 := Aside0.mk hM6; clear hr3 hcs3 hmu3 hT6 hM6)
  simp only [Bool.false_eq_true, if_false] at HT6
  refine leaves_one (f := 84) (args := #[.pointer (some ⟨g, 0, none⟩), .int .i64 4]) (by simp [go_sem]) (lookup_Table_move.callsD (most := 4) HT6.out HP.out.inv (by decide) (by rw [HP.out.moves]; exact HV0.out) (by rw [HP.out.moves]; exact HV1.out) HLL.out) ?_
  rintro e w' ⟨rfl, cs', t', h1, h2, h3⟩
  exact ⟨_, rfl, _, results_tmp rfl _ _ _, true, cs', t', rfl, h1, HP.out.moved h2 ⟨fun _ => HNW.out, fun _ => rfl⟩, ((Mut.refl _ w).drewN _).trans (HM6.out.trans h3)⟩
/-- Twice as many slots, then a new key. -/
theorem PutEnd.grown {t t1 t2 : Tab.Tb} {key node : Int} (h : Tab.PutEnd tabHome t1 t2 key node true) (hh : ∀ k v, t1.has k v ↔ t.has k v) (hl : t1.len = t.len) (hm : t1.moves = t.moves) (hn : t1.now.sl.length = 2 * t.now.sl.length) (hL : 2 * t.len ≤ t.now.sl.length) (hp : 1 ≤ t.now.sl.length) (hf : t.now.sl.length < 2 * (t.len + 1)) :
    Tab.PutEnd tabHome t t2 key node true := by
  have h1 := h.len
  have h2 := h.nl
  rw [hl] at h1 h2
  rw [hn] at h2
  refine ⟨h.inv, fun k v => by rw [h.has, hh], h1, ?_, by rw [← hm]; exact h.lo, by rw [← hm]; exact h.hi, by rw [h.new]; simp only [hh], fun _ hx => absurd ⟨rfl, hf⟩ hx⟩
  rw [h2, if_neg (by omega), if_pos ⟨rfl, hf⟩]
set_option maxRecDepth 100000 in
set_option maxHeartbeats 4000000 in
theorem lookup_Table_Put.full {g : Nat} {cs : Array Value} {t : Tab.Tb} {w : World} (key node : Int) (hT : Tab.TbAt 111 107 w g cs t) (hI : Tab.TInv tabHome 0 t) (hv0 : 0 ≤ t.moves) (hv1 : t.moves + 4 < 18446744073709551616) (hb : t.now.bits < 30)
    {j i : Nat} (hf : Calls Try.prog 85 #[.pointer (some ⟨g, 3, none⟩), .int .u64 key] w fun e w' => e = .returned (.tuple #[.int .i64 (j : Int), .bool false]) ∧ ∃ nd, w' = w.drewN nd)
    (hpr : Tab.probe t.now.sl key (t.now.sl.length + 1) (tabHome t.now.bits key) = some (i, false))
    (hno : ∀ v, ¬ t.has key v) (hc : t.now.sl.length < 2 * (t.len + 1)) :
    Calls Try.prog 46 #[.pointer (some ⟨g, 0, none⟩), .int .u64 key, .int .i32 node] w (PutPost g t key node w) := by
  have HT := Aside0.mk hT
  have HI := Aside0.mk hI
  have HV0 := Aside0.mk hv0
  have HV1 := Aside0.mk hv1
  have HB := Aside0.mk hb
  have HC := Aside0.mk hc
  have HNO := Aside0.mk hno
  have HF := Aside0.mk hf
  have hload := hI.load
  have hsm := hI.fit.small
  have HZ := Aside0.mk (hI.full hc)
  have HQ := Aside0.mk (fun nd => lookup_rows_find.calls (hT.now.drewN nd) hI.fit hpr)
  have HLEN := Aside0.mk (fun nd => lookup_Table_Len.calls (hT.drewN nd) hI (Nat.le_trans hsm (by decide)))
  have HGR := Aside0.mk (fun nd => lookup_Table_grow.calls (hT.drewN nd) hI (hI.full hc) hb hv0 (by omega))
  obtain ⟨A, hA⟩ := Option.ne_none_iff_exists'.1 hI.fit.adr
  have hv : t.now.val = .slice (some ⟨A, 0, none⟩) t.now.sl.length t.now.sl.length := by unfold Tab.Rw.val; rw [hA]; rfl
  have hc1 : ∀ nd, (w.drewN nd).cell? ⟨g, 1, none⟩ = some (.slice (some ⟨A, 0, none⟩) t.now.sl.length t.now.sl.length) := fun nd => ((blk_cell hT.now.blk 1).trans hT.now.c1).trans (by rw [hv])
  obtain ⟨n, hn⟩ : ∃ n, n = t.now.sl.length := ⟨_, rfl⟩
  obtain ⟨L, hL⟩ : ∃ L, L = t.len := ⟨_, rfl⟩
  rw [← hL] at HLEN
  rw [← hn] at hc1
  have b1 : decide ((n : Int) < 2 * ((L : Int) + 1)) = true := decide_eq_true (by omega)
  have b2 : wrap64 (2 * ((L : Int) + 1)) = 2 * ((L : Int) + 1) := by unfold wrap64; omega
  have b3 : wrap64 ((L : Int) + 1) = (L : Int) + 1 := by unfold wrap64; omega
  have b4 : IntKind.i64.wrap (2 * ((L : Int) + 1)) = 2 * ((L : Int) + 1) := by rw [IntKind.wrap_i64]; omega
  have b5 : IntKind.i64.wrap ((L : Int) + 1) = (L : Int) + 1 := by rw [IntKind.wrap_i64]; omega
  clear hT hI hv0 hv1 hf hpr hload hsm hc hno hA hv hn hL hb
  go_enter_defers Try.func46, Try.ntmps46
  go_wp2_with (first
    | (go_at_call 85; (with_reducible refine HF.out.mono ?_); rintro e w' ⟨rfl, ⟨nd, rfl⟩⟩)
    | (go_at_call 85; (with_reducible refine (HQ.out _).mono ?_); rintro e w' ⟨rfl, ⟨nd2, rfl⟩⟩))
  go_quiet ((go_at_call 47; exact quiet_more (HLEN.out _)))
  go_wp2_with (first
    | (go_at_call 86; (with_reducible refine (HGR.out _).mono ?_); rintro e w1 ⟨rfl, cs1, t1, g1, g2, g3, g4, g5, g6, g7, g8, g9, g10⟩; have G1 := Aside0.mk g1; have G2 := Aside0.mk g2; have G3 := Aside0.mk g3; have G4 := Aside0.mk g4; have G5 := Aside0.mk g5; have G6 := Aside0.mk g6; have G10 := Aside0.mk g10; clear g1 g2 g3 g4 g5 g6 g7 g8 g9 g10; obtain ⟨i1, bb, p1, p2, p3, p4⟩ := Tab.probe_from G2.out.inv key; have P1 := Aside0.mk p1; have P2 := Aside0.mk p2; have P3 := Aside0.mk p3; have P4 := Aside0.mk p4; have HM := Aside0.mk (show 0 ≤ t1.now.many ∧ t1.now.many ≤ 1099511627776 by (have h1 := G2.out.many; have h2 := G2.out.fit.small; have h3 := Tab.cnt_le t1.now.sl; rw [h1]; omega)); clear p1 p2 p3 p4)
    | (go_at_call 87; refine (lookup_rows_put.calls (node := node) G1.out.now G2.out.fit P1.out P2.out HM.out.1 HM.out.2).mono ?_; rintro e w' ⟨rfl, cs3, hr3, hcs3, hmu3⟩; obtain ⟨hT6, hM6⟩ := G1.out.now_ hr3 rfl hcs3 hmu3; have HT6 := Aside0.mk hT6; have HM6 := Aside0.mk hM6; clear hr3 hcs3 hmu3 hT6 hM6))
  have hbf : bb = false := by
    cases bb with
    | false => rfl
    | true =>
      obtain ⟨q1, q2⟩ := P3.out rfl
      exact absurd ((G3.out _ _).1 (.inl (q2 ▸ Tab.Has.mk P2.out q1))) (HNO.out _)
  subst hbf
  obtain ⟨q1, q2, q3⟩ := P4.out rfl
  have hl0 := HI.out.load
  have hl1 := HC.out
  have hp1 : 1 ≤ t.now.sl.length := by rw [HI.out.fit.len]; exact Nat.one_le_two_pow
  have hP := G2.out.putNew P2.out q1 q2 q3 (fun v h => HNO.out v ((G3.out _ _).1 (.inr h))) (by rw [G4.out, G6.out]; omega) node
  simp only [Bool.false_eq_true, if_false] at HT6
  refine leaves_one (f := 84) (args := #[.pointer (some ⟨g, 0, none⟩), .int .i64 4]) (by simp [go_sem]) (lookup_Table_move.callsD (most := 4) HT6.out hP.inv (by decide) (by rw [hP.moves, G5.out]; exact HV0.out) (by rw [hP.moves, G5.out]; exact HV1.out) (Nat.le_trans hP.inv.fit.small (by decide))) ?_
  rintro e w' ⟨rfl, cs', t', h1, h2, h3⟩
  refine ⟨_, rfl, _, results_tmp rfl _ _ _, true, cs', t', rfl, h1, PutEnd.grown (hP.moved h2 ⟨fun _ v h => HNO.out v ((G3.out _ _).1 h), fun _ => rfl⟩) G3.out G4.out G5.out G6.out hl0 hp1 HC.out, ((Mut.refl _ w).drewN _).trans (G10.out.trans (HM6.out.trans h3))⟩
/-- A Put, of any key. -/
theorem lookup_Table_Put.calls {g : Nat} {cs : Array Value} {t : Tab.Tb} {w : World} (key node : Int) (hT : Tab.TbAt 111 107 w g cs t) (hI : Tab.TInv tabHome 0 t) (hv0 : 0 ≤ t.moves) (hv1 : t.moves + 4 < 18446744073709551616) (hb : t.now.bits < 30) :
    Calls Try.prog 46 #[.pointer (some ⟨g, 0, none⟩), .int .u64 key, .int .i32 node] w (PutPost g t key node w) := by
  obtain ⟨i1, b1, q1, q2, q3⟩ := lookup_rows_find.any hT.old (tinv_any hI) key
  have q30 : Calls Try.prog 85 #[.pointer (some ⟨g, 3, none⟩), .int .u64 key] w fun e w' => e = .returned (.tuple #[.int .i64 (i1 : Int), .bool b1]) ∧ ∃ nd, w' = w.drewN nd := q3 0
  cases b1 with
  | true =>
    obtain ⟨h1, h2, h3⟩ := q1 rfl
    exact lookup_Table_Put.old key node hT hI hv0 hv1 (hI.isOld h1) h1 h2 h3 q30
  | false =>
    obtain ⟨i, b, p1, p2, p3, p4⟩ := Tab.probe_from hI.inv key
    cases b with
    | true => exact lookup_Table_Put.now key node hT hI hv0 hv1 q30 p1 p2 (p3 rfl).1 (p3 rfl).2
    | false =>
      obtain ⟨r1, r2, r3⟩ := p4 rfl
      by_cases hc : 2 * (t.len + 1) ≤ t.now.sl.length
      · exact lookup_Table_Put.fresh key node hT hI hv0 hv1 q30 p1 p2 r1 r2 r3 (Tab.none_free (q2 rfl)) hc
      · exact lookup_Table_Put.full key node hT hI hv0 hv1 hb q30 p1 (fun v h => h.elim (Tab.none_free r3 v) (Tab.none_free (q2 rfl) v)) (by omega)
set_option maxRecDepth 100000 in
set_option maxHeartbeats 4000000 in
theorem lookup_Table_Put.nil (key node : Int) (w : World) : Calls Try.prog 46 #[.pointer none, .int .u64 key, .int .i32 node] w fun e w' => e = .returned (.bool false) ∧ w' = w := by
  go_enter_defers Try.func46, Try.ntmps46
  go_wp2
  exact ⟨_, results_tmp rfl _ _ _, rfl, rfl⟩


/-! ### lookup_Table_Drop: function 48 -/
-- by hand
/-- What stands behind a Drop. -/
def DropPost (g : Nat) (t : Tab.Tb) (key : Int) (w : World) (e : Ending) (w' : World) : Prop := ∃ (b : Bool) (cs' : Array Value) (t' : Tab.Tb), e = .returned (.bool b) ∧ Tab.TbAt 111 107 w' g cs' t' ∧ Tab.DropEnd tabHome t t' key b ∧ Mut (t.foot g) w (t'.foot g) w'
set_option maxRecDepth 100000 in
set_option maxHeartbeats 4000000 in
theorem lookup_Table_Drop.now {g : Nat} {cs : Array Value} {t : Tab.Tb} {w : World} (key : Int) (hT : Tab.TbAt 111 107 w g cs t) (hI : Tab.TInv tabHome 0 t) (hv0 : 0 ≤ t.moves) (hv1 : t.moves + 4 < 18446744073709551616)
    {i : Nat} (hf : Calls Try.prog 85 #[.pointer (some ⟨g, 0, none⟩), .int .u64 key] w fun e w' => e = .returned (.tuple #[.int .i64 (i : Int), .bool true]) ∧ ∃ nd, w' = w.drewN nd)
    (hi : i < t.now.sl.length) (ht : (Tab.at_ t.now.sl i).t = true) (hk : (Tab.at_ t.now.sl i).k = key) :
    Calls Try.prog 48 #[.pointer (some ⟨g, 0, none⟩), .int .u64 key] w (DropPost g t key w) := by
  obtain ⟨S, c1, c2⟩ := hI.dropNow (sk := 0) hi ht hk
  have HT := Aside0.mk hT
  have HI := Aside0.mk hI
  have HV0 := Aside0.mk hv0
  have HV1 := Aside0.mk hv1
  have HP := Aside0.mk c2
  have HF := Aside0.mk hf
  have HNW := Aside0.mk (show ∃ v, t.has key v from ⟨_, .inl (hk ▸ Tab.Has.mk hi ht)⟩)
  have hcp : 0 < Tab.cnt t.now.sl := List.countP_pos_iff.2 ⟨t.now.sl[i], List.getElem_mem hi, by rw [← Tab.at_eq hi]; exact ht⟩
  have hsm := hI.fit.small
  have hcl := Tab.cnt_le t.now.sl
  have HM := Aside0.mk (show 1 ≤ t.now.many ∧ t.now.many ≤ 1099511627776 by rw [hI.many]; omega)
  have HC := Aside0.mk c1
  have HI_ := Aside0.mk hi
  clear hT hI hv0 hv1 ht hk hf hi hcp hsm hcl c1 c2
  go_enter_defers Try.func48, Try.ntmps48
  go_wp2_with (first
    | (go_at_call 85; (with_reducible refine HF.out.mono ?_); rintro e w' ⟨rfl, ⟨nd, rfl⟩⟩)
    | (go_at_call 88; refine (lookup_rows_clear.calls (HT.out.drewN _).now HI.out.fit HI_.out HC.out HM.out.1 HM.out.2).mono ?_; rintro e w' ⟨rfl, cs3, hr3, hcs3, hmu3⟩; obtain ⟨hT6, hM6⟩ := (HT.out.drewN _).now_ hr3 rfl hcs3 hmu3; have HT6 := Aside0.mk hT6; have HM6 := Aside0.mk hM6; clear hr3 hcs3 hmu3 hT6 hM6))
  refine leaves_one (f := 84) (args := #[.pointer (some ⟨g, 0, none⟩), .int .i64 4]) (by simp [go_sem]) (lookup_Table_move.callsD (most := 4) HT6.out HP.out.inv (by decide) (by rw [HP.out.moves]; exact HV0.out) (by rw [HP.out.moves]; exact HV1.out) (Nat.le_trans HP.out.inv.fit.small (by decide))) ?_
  rintro e w' ⟨rfl, cs', t', h1, h2, h3⟩
  exact ⟨_, rfl, _, results_tmp rfl _ _ _, true, cs', t', rfl, h1, HP.out.moved h2 ⟨fun h => absurd h (by simp), fun h => HNW.out.elim (fun v hv => absurd hv (h v))⟩, ((Mut.refl _ w).drewN _).trans (HM6.out.trans h3)⟩
set_option maxRecDepth 100000 in
set_option maxHeartbeats 4000000 in
theorem lookup_Table_Drop.old {g : Nat} {cs : Array Value} {t : Tab.Tb} {w : World} (key : Int) (hT : Tab.TbAt 111 107 w g cs t) (hI : Tab.TInv tabHome 0 t) (hv0 : 0 ≤ t.moves) (hv1 : t.moves + 4 < 18446744073709551616)
    {j i : Nat} (hf : Calls Try.prog 85 #[.pointer (some ⟨g, 0, none⟩), .int .u64 key] w fun e w' => e = .returned (.tuple #[.int .i64 (j : Int), .bool false]) ∧ ∃ nd, w' = w.drewN nd)
    (hf2 : ∀ nd, Calls Try.prog 85 #[.pointer (some ⟨g, 3, none⟩), .int .u64 key] (w.drewN nd) fun e w' => e = .returned (.tuple #[.int .i64 (i : Int), .bool true]) ∧ ∃ nd, w' = w.drewN nd)
    (hi : i < t.old.sl.length) (ht : (Tab.at_ t.old.sl i).t = true) (hk : (Tab.at_ t.old.sl i).k = key) :
    Calls Try.prog 48 #[.pointer (some ⟨g, 0, none⟩), .int .u64 key] w (DropPost g t key w) := by
  have ho := hI.isOld hi
  obtain ⟨S, c1, c2⟩ := hI.dropOld ho hi ht hk
  have HT := Aside0.mk hT
  have HO := Aside0.mk ho
  have HV0 := Aside0.mk hv0
  have HV1 := Aside0.mk hv1
  have HP := Aside0.mk c2
  have HF := Aside0.mk hf
  have HF2 := Aside0.mk hf2
  have HNW := Aside0.mk (show ∃ v, t.has key v from ⟨_, .inr (hk ▸ Tab.Has.mk hi ht)⟩)
  have hcp : 0 < Tab.cnt t.old.sl := List.countP_pos_iff.2 ⟨t.old.sl[i], List.getElem_mem hi, by rw [← Tab.at_eq hi]; exact ht⟩
  have hsm := ho.fit.small
  have hcl := Tab.cnt_le t.old.sl
  have HM := Aside0.mk (show 1 ≤ t.old.many ∧ t.old.many ≤ 1099511627776 by rw [ho.many]; omega)
  have HC := Aside0.mk c1
  have HI_ := Aside0.mk hi
  clear hT hI hv0 hv1 ht hk hf hf2 hi hcp hsm hcl c1 c2 ho
  go_enter_defers Try.func48, Try.ntmps48
  go_wp2_with (first
    | (go_at_call 85; (with_reducible refine HF.out.mono ?_); rintro e w' ⟨rfl, ⟨nd, rfl⟩⟩)
    | (go_at_call 85; (with_reducible refine (HF2.out _).mono ?_); rintro e w' ⟨rfl, ⟨nd, rfl⟩⟩)
    | (go_at_call 88; refine (lookup_rows_clear.calls (HT.out.drewN _).old HO.out.fit HI_.out HC.out HM.out.1 HM.out.2).mono ?_; rintro e w' ⟨rfl, cs3, hr3, hcs3, hmu3⟩; obtain ⟨hT6, hM6⟩ := (HT.out.drewN _).old_ hr3 rfl hcs3 hmu3; have HT6 := Aside0.mk hT6; have HM6 := Aside0.mk hM6; clear hr3 hcs3 hmu3 hT6 hM6))
  refine leaves_one (f := 84) (args := #[.pointer (some ⟨g, 0, none⟩), .int .i64 4]) (by simp [go_sem]) (lookup_Table_move.callsD (most := 4) HT6.out HP.out.inv (by decide) (by rw [HP.out.moves]; exact HV0.out) (by rw [HP.out.moves]; exact HV1.out) (Nat.le_trans HP.out.inv.fit.small (by decide))) ?_
  rintro e w' ⟨rfl, cs', t', h1, h2, h3⟩
  exact ⟨_, rfl, _, results_tmp rfl _ _ _, true, cs', t', rfl, h1, HP.out.moved h2 ⟨fun h => absurd h (by simp), fun h => HNW.out.elim (fun v hv => absurd hv (h v))⟩, ((Mut.refl _ w).drewN _).trans (HM6.out.trans h3)⟩
set_option maxRecDepth 100000 in
set_option maxHeartbeats 4000000 in
theorem lookup_Table_Drop.nokey {g : Nat} {cs : Array Value} {t : Tab.Tb} {w : World} (key : Int) (hT : Tab.TbAt 111 107 w g cs t) (hI : Tab.TInv tabHome 0 t) (hv0 : 0 ≤ t.moves) (hv1 : t.moves + 4 < 18446744073709551616)
    {j i : Nat} (hf : Calls Try.prog 85 #[.pointer (some ⟨g, 0, none⟩), .int .u64 key] w fun e w' => e = .returned (.tuple #[.int .i64 (j : Int), .bool false]) ∧ ∃ nd, w' = w.drewN nd)
    (hf2 : ∀ nd, Calls Try.prog 85 #[.pointer (some ⟨g, 3, none⟩), .int .u64 key] (w.drewN nd) fun e w' => e = .returned (.tuple #[.int .i64 (i : Int), .bool false]) ∧ ∃ nd, w' = w.drewN nd)
    (hno : ∀ v, ¬ t.has key v) :
    Calls Try.prog 48 #[.pointer (some ⟨g, 0, none⟩), .int .u64 key] w (DropPost g t key w) := by
  have HT := Aside0.mk hT
  have HV0 := Aside0.mk hv0
  have HV1 := Aside0.mk hv1
  have HP := Aside0.mk (hI.dropNone hno)
  have HF := Aside0.mk hf
  have HF2 := Aside0.mk hf2
  have HNO := Aside0.mk hno
  clear hT hI hv0 hv1 hf hf2 hno
  go_enter_defers Try.func48, Try.ntmps48
  go_wp2_with (first
    | (go_at_call 85; (with_reducible refine HF.out.mono ?_); rintro e w' ⟨rfl, ⟨nd, rfl⟩⟩)
    | (go_at_call 85; (with_reducible refine (HF2.out _).mono ?_); rintro e w' ⟨rfl, ⟨nd, rfl⟩⟩))
  refine leaves_one (f := 84) (args := #[.pointer (some ⟨g, 0, none⟩), .int .i64 4]) (by simp [go_sem]) (lookup_Table_move.callsD (most := 4) (HT.out.drewN _) HP.out.inv (by decide) HV0.out HV1.out (Nat.le_trans HP.out.inv.fit.small (by decide))) ?_
  rintro e w' ⟨rfl, cs', t', h1, h2, h3⟩
  exact ⟨_, rfl, _, results_tmp rfl _ _ _, false, cs', t', rfl, h1, HP.out.moved h2 ⟨fun _ => HNO.out, fun _ => rfl⟩, ((Mut.refl _ w).drewN _).trans h3⟩
/-- A Drop, of any key. -/
theorem lookup_Table_Drop.calls {g : Nat} {cs : Array Value} {t : Tab.Tb} {w : World} (key : Int) (hT : Tab.TbAt 111 107 w g cs t) (hI : Tab.TInv tabHome 0 t) (hv0 : 0 ≤ t.moves) (hv1 : t.moves + 4 < 18446744073709551616) :
    Calls Try.prog 48 #[.pointer (some ⟨g, 0, none⟩), .int .u64 key] w (DropPost g t key w) := by
  obtain ⟨i0, b0, p1, p2, p3⟩ := lookup_rows_find.any hT.now (.inr ⟨hI.fit, hI.inv⟩) key
  have p30 : Calls Try.prog 85 #[.pointer (some ⟨g, 0, none⟩), .int .u64 key] w fun e w' => e = .returned (.tuple #[.int .i64 (i0 : Int), .bool b0]) ∧ ∃ nd, w' = w.drewN nd := p3 0
  obtain ⟨i1, b1, q1, q2, q3⟩ := lookup_rows_find.any hT.old (tinv_any hI) key
  cases b0 with
  | true =>
    obtain ⟨h1, h2, h3⟩ := p1 rfl
    exact lookup_Table_Drop.now key hT hI hv0 hv1 p30 h1 h2 h3
  | false =>
    cases b1 with
    | true =>
      obtain ⟨h1, h2, h3⟩ := q1 rfl
      exact lookup_Table_Drop.old key hT hI hv0 hv1 p30 q3 h1 h2 h3
    | false => exact lookup_Table_Drop.nokey key hT hI hv0 hv1 p30 q3 (fun v h => h.elim (Tab.none_free (p2 rfl) v) (Tab.none_free (q2 rfl) v))
set_option maxRecDepth 100000 in
set_option maxHeartbeats 4000000 in
theorem lookup_Table_Drop.nil (key : Int) (w : World) : Calls Try.prog 48 #[.pointer none, .int .u64 key] w fun e w' => e = .returned (.bool false) ∧ w' = w := by
  go_enter_defers Try.func48, Try.ntmps48
  go_wp2
  exact ⟨_, results_tmp rfl _ _ _, rfl, rfl⟩


/-! ### lookup_Table_Find: function 49 -/
-- by hand
set_option maxRecDepth 100000 in
set_option maxHeartbeats 4000000 in
theorem lookup_Table_Find.calls {g sk : Nat} {cs : Array Value} {t : Tab.Tb} {w : World} (key : Int) (hT : Tab.TbAt 111 107 w g cs t) (hI : Tab.TInv tabHome sk t) :
    Calls Try.prog 49 #[.pointer (some ⟨g, 0, none⟩), .int .u64 key] w fun e w' => ∃ (n : Int) (b : Bool), e = .returned (.tuple #[.int .i32 n, .bool b]) ∧ (b = true → t.has key n) ∧ (b = false → n = 0 ∧ ∀ v, ¬ t.has key v) ∧ ∃ nd, w' = w.drewN nd := by
  obtain ⟨i1, b1, p1, p2, p3⟩ := lookup_rows_find.any hT.now (.inr ⟨hI.fit, hI.inv⟩) key
  obtain ⟨i2, b2, q1, q2, q3⟩ := lookup_rows_find.any hT.old (tinv_any hI) key
  have q30 := p3 0
  have HP := Aside0.mk p3
  have HQ := Aside0.mk q3
  have HT := Aside0.mk hT
  have HP0 := Aside0.mk (show Calls Try.prog 85 #[.pointer (some ⟨g, 0, none⟩), .int .u64 key] w _ from q30)
  clear q30 p3 q3
  cases b1 with
  | true =>
    obtain ⟨h1, h2, h3⟩ := p1 rfl
    obtain ⟨A, hA⟩ := Option.ne_none_iff_exists'.1 hI.fit.adr
    have hv : t.now.val = .slice (some ⟨A, 0, none⟩) t.now.sl.length t.now.sl.length := by unfold Tab.Rw.val; rw [hA]; rfl
    have hc1 : ∀ nd, (w.drewN nd).cell? ⟨g, 1, none⟩ = some (.slice (some ⟨A, 0, none⟩) t.now.sl.length t.now.sl.length) := fun nd => ((blk_cell hT.now.blk 1).trans hT.now.c1).trans (by rw [hv])
    obtain ⟨_, hs1, _⟩ := Tab.arr_cell (hT.now.arr A hA).1 h1
    have hs : ∀ nd, (w.drewN nd).cell? ⟨A, i1 * 3 + 1, none⟩ = some (.int .i32 (Tab.at_ t.now.sl i1).n) := fun nd => hs1
    have HH := Aside0.mk (show t.has key (Tab.at_ t.now.sl i1).n from .inl (h3 ▸ Tab.Has.mk h1 h2))
    generalize Tab.at_ t.now.sl i1 = x at hs HH
    generalize t.now.sl.length = n at h1 hc1
    have i0 : (0 : Int) ≤ (i1 : Int) := by omega
    have i1' : (i1 : Int) < (n : Int) := by omega
    clear p1 p2 q1 q2 hT hI h2 h3 hA hv hs1
    go_enter Try.func49, Try.ntmps49
    go_wp2_with (go_at_call 85; (with_reducible refine HP0.out.mono ?_); rintro e w' ⟨rfl, ⟨nd, rfl⟩⟩)
    go_ret2
    exact ⟨x.n, true, rfl, fun _ => HH.out, fun h => absurd h (by simp), _, rfl⟩
  | false =>
    cases b2 with
    | true =>
      obtain ⟨h1, h2, h3⟩ := q1 rfl
      have hne : t.old.adr ≠ none := fun hn => by rw [hT.old.non hn] at h1; exact absurd h1 (by simp)
      obtain ⟨A, hA⟩ := Option.ne_none_iff_exists'.1 hne
      have hv : t.old.val = .slice (some ⟨A, 0, none⟩) t.old.sl.length t.old.sl.length := by unfold Tab.Rw.val; rw [hA]; rfl
      have hc1 : ∀ nd, (w.drewN nd).cell? ⟨g, 4, none⟩ = some (.slice (some ⟨A, 0, none⟩) t.old.sl.length t.old.sl.length) := fun nd => ((blk_cell hT.old.blk 4).trans hT.old.c1).trans (by rw [hv])
      obtain ⟨_, hs1, _⟩ := Tab.arr_cell (hT.old.arr A hA).1 h1
      have hs : ∀ nd, (w.drewN nd).cell? ⟨A, i2 * 3 + 1, none⟩ = some (.int .i32 (Tab.at_ t.old.sl i2).n) := fun nd => hs1
      have HH := Aside0.mk (show t.has key (Tab.at_ t.old.sl i2).n from .inr (h3 ▸ Tab.Has.mk h1 h2))
      generalize Tab.at_ t.old.sl i2 = x at hs HH
      generalize t.old.sl.length = n at h1 hc1
      have i0 : (0 : Int) ≤ (i2 : Int) := by omega
      have i1' : (i2 : Int) < (n : Int) := by omega
      clear p1 p2 q1 q2 hT hI h2 h3 hA hv hs1 hne
      go_enter Try.func49, Try.ntmps49
      go_wp2_with (first
        | (go_at_call 85; (with_reducible refine HP0.out.mono ?_); rintro e w' ⟨rfl, ⟨nd, rfl⟩⟩)
        | (go_at_call 85; (with_reducible refine (HQ.out _).mono ?_); rintro e w' ⟨rfl, ⟨nd, rfl⟩⟩))
      go_ret2
      exact ⟨x.n, true, rfl, fun _ => HH.out, fun h => absurd h (by simp), _, rfl⟩
    | false =>
      have HH := Aside0.mk (show ∀ v, ¬ t.has key v by
        rintro v (⟨p, hp, hat⟩ | ⟨p, hp, hat⟩)
        · exact p2 rfl p hp (by rw [hat]) (by rw [hat])
        · exact q2 rfl p hp (by rw [hat]) (by rw [hat]))
      clear p1 p2 q1 q2 hT hI
      go_enter Try.func49, Try.ntmps49
      go_wp2_with (first
        | (go_at_call 85; (with_reducible refine HP0.out.mono ?_); rintro e w' ⟨rfl, ⟨nd, rfl⟩⟩)
        | (go_at_call 85; (with_reducible refine (HQ.out _).mono ?_); rintro e w' ⟨rfl, ⟨nd, rfl⟩⟩))
      go_ret2
      exact ⟨0, false, rfl, fun h => absurd h (by simp), fun _ => ⟨rfl, HH.out⟩, _, rfl⟩
set_option maxRecDepth 100000 in
set_option maxHeartbeats 4000000 in
theorem lookup_Table_Find.nil (key : Int) (w : World) : Calls Try.prog 49 #[.pointer none, .int .u64 key] w fun e w' => e = .returned (.tuple #[.int .i32 0, .bool false]) ∧ w' = w := by
  go_enter Try.func49, Try.ntmps49
  go_wp2
  go_ret2
  exact ⟨rfl, rfl⟩


/-! ### lookup_Table_Moves: function 50 -/
-- by hand
set_option maxRecDepth 100000 in
set_option maxHeartbeats 4000000 in
theorem lookup_Table_Moves.calls {g : Nat} {cs : Array Value} {t : Tab.Tb} {w : World} (hT : Tab.TbAt 111 107 w g cs t) :
    Calls Try.prog 50 #[.pointer (some ⟨g, 0, none⟩)] w fun e w' => e = .returned (.int .u64 t.moves) ∧ w' = w := by
  have hc1 : w.cell? ⟨g, 7, none⟩ = some (.int .u64 t.moves) := (blk_cell hT.now.blk 7).trans hT.mov
  clear hT
  go_enter Try.func50, Try.ntmps50
  go_wp2
  go_ret
  exact ⟨rfl, rfl⟩
set_option maxRecDepth 100000 in
set_option maxHeartbeats 4000000 in
theorem lookup_Table_Moves.nil (w : World) : Calls Try.prog 50 #[.pointer none] w fun e w' => e = .returned (.int .u64 0) ∧ w' = w := by
  go_enter Try.func50, Try.ntmps50
  go_wp2
  go_ret
  exact ⟨rfl, rfl⟩


/-! ### lookup_Table_Slots: function 61 -/
-- by hand
set_option maxRecDepth 100000 in
set_option maxHeartbeats 4000000 in
theorem lookup_Table_Slots.calls {g : Nat} {cs : Array Value} {t : Tab.Tb} {w : World} (hT : Tab.TbAt 111 107 w g cs t) :
    Calls Try.prog 61 #[.pointer (some ⟨g, 0, none⟩)] w fun e w' => e = .returned (.int .i64 (t.now.sl.length : Int)) ∧ w' = w := by
  have hc1 : w.cell? ⟨g, 1, none⟩ = some t.now.val := (blk_cell hT.now.blk 1).trans hT.now.c1
  unfold Tab.Rw.val at hc1
  clear hT
  generalize t.now.sl.length = a at hc1 ⊢
  go_enter Try.func61, Try.ntmps61
  go_wp2
  go_ret
  exact ⟨rfl, rfl⟩
set_option maxRecDepth 100000 in
set_option maxHeartbeats 4000000 in
theorem lookup_Table_Slots.nil (w : World) : Calls Try.prog 61 #[.pointer none] w fun e w' => e = .returned (.int .i64 0) ∧ w' = w := by
  go_enter Try.func61, Try.ntmps61
  go_wp2
  go_ret
  exact ⟨rfl, rfl⟩


/-! ### hutchlaw06_alive: function 51 -/
-- by hand
/-- What holds of the example's table behind so many Puts. -/
structure AlT (t : Tab.Tb) (i : Nat) : Prop where
  has : ∀ k v, t.has k v ↔ 1 ≤ k ∧ k ≤ (i : Int) ∧ v = k
  len : t.len = i
  nl : t.now.sl.length = if i ≤ 4 then 8 else 16
  mv : 0 ≤ t.moves ∧ t.moves ≤ if i ≤ 4 then 0 else 4
  old : i ≤ 4 → Tab.cnt t.old.sl = 0
theorem AlT.put {t t2 : Tab.Tb} {i : Nat} {b : Bool} (h : AlT t i) (hi : i ≤ 4) (hp : Tab.PutEnd tabHome t t2 ((i : Int) + 1) ((i : Int) + 1) b) : b = true ∧ AlT t2 (i + 1) := by
  have hb : b = true := hp.new.2 (fun v hv => by have := (h.has _ _).1 hv; omega)
  subst hb
  have h1 := hp.len
  have h2 := hp.nl
  have h3 := h.len
  have h4 := h.nl
  have h5 := h.mv
  have h6 := hp.lo
  have h7 := hp.hi
  have h8 := hp.still (h.old hi)
  rw [if_pos hi] at h4 h5
  simp only [true_and, if_true] at h1 h2 h8
  refine ⟨rfl, fun k v => ?_, by omega, ?_, ?_, fun hi2 => (h8 (by omega)).2⟩
  · rw [hp.has, h.has]
    push_cast
    omega
  · rw [h2]
    by_cases hx : i = 4
    · rw [if_pos (by omega), if_neg (by omega)]; omega
    · rw [if_neg (by omega), if_pos (by omega)]; omega
  · by_cases hx : i = 4
    · rw [if_neg (by omega)]; omega
    · rw [if_pos (by omega)]
      have := (h8 (by omega)).1
      omega
set_option maxRecDepth 100000 in
set_option maxHeartbeats 4000000 in
theorem hutchlaw06_alive.calls (w : World) : Calls Try.prog 51 #[] w fun e w' => e = .returned (.bool true) ∧ Below w.heap.size w w' := by
  go_enter Try.func51, Try.ntmps51
  go_wp2_with (go_at_call 45; refine (lookup_New.calls (home := tabHome) (fun x => (tabHome_is 3 x (by decide) (by decide)).2)).mono ?_; rintro e w1 ⟨g, cs, t, rfl, h1, h2, h3, h4, h5, h6, h7, h8⟩; have HL := Aside0.mk (show Tab.Live 111 107 tabHome w w1 g cs t from ⟨h1, h2, h7, h8⟩); have HA := Aside0.mk (show AlT t 0 from ⟨fun k v => ⟨fun h => absurd h (h3 k v), fun h => by omega⟩, h5, h6, ⟨by omega, by rw [if_pos (by decide)]; omega⟩, fun _ => (by have := h5; unfold Tab.Tb.len at this; omega)⟩); clear h1 h2 h3 h4 h5 h6 h7 h8)
  go_loopg [2] 6 (fun kq v2 w' => ∃ (i : Nat) (cs1 : Array Value) (t1 : Tab.Tb), v2 = .int .i64 ((i : Int) + 1) ∧ i ≤ 5 ∧ i + kq = 6 ∧ Aside0 (Tab.Live 111 107 tabHome w w' g cs1 t1) ∧ Aside0 (AlT t1 i))
  case atStart => exact ⟨0, cs, t, rfl, by omega, by omega, HL, HA⟩
  case round =>
    obtain ⟨i, cs1, t1, rfl, hi, hk, HL1, HA1⟩ := hrel
    obtain ⟨k1, rfl⟩ : ∃ k1, gk = k1 + 1 := ⟨gk - 1, by omega⟩
    by_cases hlt : i ≤ 4
    · have HLT := Aside0.mk hlt
      go_wp2_with (go_at_call 46; refine (lookup_Table_Put.calls ((i : Int) + 1) ((i : Int) + 1) HL1.out.tab HL1.out.inv HA1.out.mv.1 (by have := HA1.out.mv; have h1 := HLT.out; rw [if_pos h1] at this; omega) (Tab.bits_lt HL1.out.inv.fit (n := 8) (by rw [HA1.out.nl, if_pos HLT.out]; exact Nat.le_refl _) (by decide))).mono ?_; rintro e w2 ⟨b, cs2, t2, rfl, q1, q2, q3⟩; obtain ⟨rfl, q4⟩ := HA1.out.put HLT.out q2; have HL2 := Aside0.mk (HL1.out.step q1 q2.inv q3); have HA2 := Aside0.mk q4; clear q1 q2 q3 q4)
      go_roundg k1
      case measure => omega
      case rel => exact ⟨i + 1, cs2, t2, by go_num, by have := HLT.out; omega, by omega, HL2, HA2⟩
    · obtain rfl : i = 5 := by omega
      have hf := lookup_Table_Find.calls 3 HL1.out.tab HL1.out.inv
      have hl : ∀ nd, Calls Try.prog 47 #[.pointer (some ⟨g, 0, none⟩)] (wr.drewN nd) fun e w' => e = .returned (.int .i64 5) ∧ ∃ nd2, w' = (wr.drewN nd).drewN nd2 := fun nd => by
        have := lookup_Table_Len.calls (HL1.out.tab.drewN nd) HL1.out.inv (Nat.le_trans HL1.out.inv.fit.small (by decide))
        rw [HA1.out.len] at this
        exact this
      have hs : ∀ nd, Calls Try.prog 61 #[.pointer (some ⟨g, 0, none⟩)] (wr.drewN nd) fun e w' => e = .returned (.int .i64 16) ∧ w' = wr.drewN nd := fun nd => by
        have := lookup_Table_Slots.calls (HL1.out.tab.drewN nd)
        rw [HA1.out.nl, if_neg (by decide)] at this
        exact this
      have hm : ∀ nd, Calls Try.prog 50 #[.pointer (some ⟨g, 0, none⟩)] (wr.drewN nd) fun e w' => e = .returned (.int .u64 t1.moves) ∧ w' = wr.drewN nd := fun nd => lookup_Table_Moves.calls (HL1.out.tab.drewN nd)
      have hmv := HA1.out.mv
      rw [if_neg (by decide)] at hmv
      obtain ⟨m, hm0⟩ : ∃ m, m = t1.moves := ⟨_, rfl⟩
      rw [← hm0] at hmv hm
      obtain ⟨m0, m4⟩ := hmv
      have b1 : decide (m ≤ 4) = true := decide_eq_true m4
      have HF := Aside0.mk hf
      have HLn := Aside0.mk hl
      have HS := Aside0.mk hs
      have HM := Aside0.mk hm
      have HH := Aside0.mk (show t1.has 3 3 from (HA1.out.has 3 3).2 (by omega))
      clear hf hl hs hm hm0
      go_wp2_with (first
        | (go_at_call 49; (with_reducible refine HF.out.mono ?_); rintro e w2 ⟨n, b, rfl, f1, f2, nd, rfl⟩; obtain rfl : b = true := (by cases b with | true => rfl | false => exact absurd HH.out ((f2 rfl).2 3)); obtain rfl : n = 3 := (by have := (HA1.out.has _ _).1 (f1 rfl); omega); clear f1 f2)
        | (go_at_call 47; (with_reducible refine (HLn.out _).mono ?_); rintro e w2 ⟨rfl, nd, rfl⟩)
        | (go_at_call 61; (with_reducible refine (HS.out _).mono ?_); rintro e w2 ⟨rfl, rfl⟩)
        | (go_at_call 50; (with_reducible refine (HM.out _).mono ?_); rintro e w2 ⟨rfl, rfl⟩))
      go_ret
      exact ⟨rfl, (HL1.out.drewN _).below⟩


/-! ### hutchlaw06_LookupMany: function 10 -/
-- by hand
/-- What the arguments are known to be. -/
def hutchlaw06_LookupMany.f (a0 : Int) (a1 : Int) (a2 : Int) (a3 : Int) : Option (Bool) := if (0 ≤ a0 ∧ a0 < 18446744073709551616) ∧ (0 ≤ a1 ∧ a1 < 18446744073709551616) ∧ (0 ≤ a2 ∧ a2 < 65536) ∧ (0 ≤ a3 ∧ a3 < 256) then some true else none
/-- The keys, in their order. -/
def mKey (a0 a1 : Int) (j : Nat) : Int := IntKind.u64.wrap (a0 + IntKind.u64.wrap (a1 * j))
theorem mKey_le {a0 a1 : Int} (h0 : 0 ≤ a1) (h : a1 % 2 = 1) {i j : Nat} (hij : i ≤ j) (hj : j < 700) (hk : mKey a0 a1 i = mKey a0 a1 j) : i = j := by
  obtain ⟨a, rfl⟩ := Int.eq_ofNat_of_zero_le h0
  obtain ⟨d, rfl⟩ : ∃ d, j = i + d := ⟨j - i, by omega⟩
  unfold mKey at hk
  simp only [IntKind.wrap_u64] at hk
  have e : (a : Int) * ((i + d : Nat) : Int) = (a : Int) * (i : Int) + ((a * d : Nat) : Int) := by
    push_cast
    exact Int.mul_add _ _ _
  rw [e] at hk
  generalize (a : Int) * (i : Int) = X at hk
  have hm : (a * d) % 18446744073709551616 = 0 := by omega
  have hg : Nat.Coprime (2 ^ 64) a := by
    refine Nat.Coprime.pow_left 64 ?_
    unfold Nat.Coprime
    rw [Nat.gcd_rec, show a % 2 = 1 by omega]
    rfl
  have hd : 2 ^ 64 ∣ d := hg.dvd_of_dvd_mul_left (by rw [show (2 : Nat) ^ 64 = 18446744073709551616 by decide]; exact Nat.dvd_of_mod_eq_zero hm)
  obtain ⟨q, hq⟩ := hd
  rw [show (2 : Nat) ^ 64 = 18446744073709551616 by decide] at hq
  omega
theorem mKey_inj {a0 a1 : Int} (h0 : 0 ≤ a1) (h : a1 % 2 = 1) {i j : Nat} (hi : i < 700) (hj : j < 700) (hk : mKey a0 a1 i = mKey a0 a1 j) : i = j := by
  rcases Nat.le_total i j with h1 | h1
  · exact mKey_le h0 h h1 hj hk
  · exact (mKey_le h0 h h1 hi hk.symm).symm
/-- What a table holds behind so many Puts, if the distance is odd. -/
structure ManyT (od : Bool) (a0 a1 : Int) (t : Tab.Tb) (n i c : Nat) : Prop where
  has : od = true → ∀ k v, t.has k v ↔ ∃ j : Nat, j < n ∧ ¬ (j < i ∧ c ∣ j) ∧ k = mKey a0 a1 j ∧ v = j
  len : od = true → i = 0 → t.len = n
  ln : t.len ≤ n
  lo : 0 ≤ t.moves
  nl : t.now.sl.length ≤ 2800
theorem ManyT.put {od : Bool} {a0 a1 : Int} {t t2 : Tab.Tb} {i : Nat} {b : Bool} (h0 : 0 ≤ a1) (ho : od = true → a1 % 2 = 1) (h : ManyT od a0 a1 t i 0 1) (hi : i < 700) (hp : Tab.PutEnd tabHome t t2 (mKey a0 a1 i) i b) : ManyT od a0 a1 t2 (i + 1) 0 1 := by
  have hl := hp.len
  have hln := h.ln
  refine ⟨fun hod k v => ?_, fun hod _ => ?_, ?_, Int.le_trans h.lo hp.lo, ?_⟩
  · rw [hp.has, h.has hod]
    constructor
    · rintro (⟨rfl, rfl⟩ | ⟨h1, j, h2, _, rfl, rfl⟩)
      · exact ⟨i, by omega, by omega, rfl, rfl⟩
      · exact ⟨j, by omega, by omega, rfl, rfl⟩
    · rintro ⟨j, h1, h2, rfl, rfl⟩
      by_cases hj : j = i
      · exact .inl ⟨by rw [hj], by rw [hj]⟩
      · exact .inr ⟨fun e => hj (mKey_inj h0 (ho hod) (by omega) hi e), j, by omega, by omega, rfl, rfl⟩
  · have hb : b = true := hp.new.2 (fun v hv => by
      obtain ⟨j, h1, _, h2, _⟩ := (h.has hod _ _).1 hv
      have := mKey_inj h0 (ho hod) hi (by omega) h2
      omega)
    rw [hl, if_pos hb, h.len hod rfl]
  · rw [hl]; split <;> omega
  · have hn := h.nl
    rw [hp.nl]
    split
    · omega
    · exact hn
theorem ManyT.re {od : Bool} {a0 a1 : Int} {t : Tab.Tb} {n c : Nat} (h : ManyT od a0 a1 t n 0 1) : ManyT od a0 a1 t n 0 c :=
  ⟨fun hod k v => by
    rw [h.has hod]
    constructor
    · rintro ⟨j, h1, h2, h3⟩; exact ⟨j, h1, by omega, h3⟩
    · rintro ⟨j, h1, h2, h3⟩; exact ⟨j, h1, by omega, h3⟩, h.len, h.ln, h.lo, h.nl⟩
theorem ManyT.drop {od : Bool} {a0 a1 : Int} {t t2 : Tab.Tb} {n i c : Nat} {b : Bool} (h0 : 0 ≤ a1) (ho : od = true → a1 % 2 = 1) (h : ManyT od a0 a1 t n i c) (hc : 2 ≤ c) (hi : i < n) (hn : n < 700) (hd : c ∣ i) (hp : Tab.DropEnd tabHome t t2 (mKey a0 a1 i) b) : ManyT od a0 a1 t2 n (i + c) c := by
  have hl := hp.len
  have hln := h.ln
  refine ⟨fun hod k v => ?_, fun _ hx => by omega, by split at hl <;> omega, Int.le_trans h.lo hp.lo, by rw [hp.nl]; exact h.nl⟩
  rw [hp.has, h.has hod]
  constructor
  · rintro ⟨h1, j, h2, h3, rfl, rfl⟩
    refine ⟨j, h2, fun ⟨h4, h5⟩ => ?_, rfl, rfl⟩
    obtain ⟨x, rfl⟩ := hd
    obtain ⟨y, rfl⟩ := h5
    have h6 : y ≤ x := by
      rcases Nat.lt_or_ge x y with h6 | h6
      · have := Nat.mul_le_mul_left c (show x + 1 ≤ y from h6)
        rw [Nat.mul_add] at this
        omega
      · exact h6
    by_cases h7 : y = x
    · exact h1 (by rw [h7])
    · have := Nat.mul_le_mul_left c (show y + 1 ≤ x by omega)
      rw [Nat.mul_add] at this
      exact h3 ⟨by omega, ⟨y, rfl⟩⟩
  · rintro ⟨j, h1, h2, rfl, rfl⟩
    refine ⟨fun e => ?_, j, h1, fun h3 => h2 ⟨by omega, h3.2⟩, rfl, rfl⟩
    have := mKey_inj h0 (ho hod) (by omega) (by omega) e
    exact h2 ⟨by omega, by rw [this]; exact hd⟩
theorem ManyT.find {a0 a1 : Int} {t : Tab.Tb} {n i c m : Nat} (h0 : 0 ≤ a1) (ho : a1 % 2 = 1) (h : ManyT true a0 a1 t n m c) (hm : n ≤ m) (hi : i < n) (hn : n < 700) : (c ∣ i → ∀ v, ¬ t.has (mKey a0 a1 i) v) ∧ (¬ c ∣ i → ∀ v, t.has (mKey a0 a1 i) v ↔ v = i) := by
  constructor
  · intro hd v hv
    obtain ⟨j, h1, h2, h3, h4⟩ := (h.has rfl _ _).1 hv
    have := mKey_inj h0 ho (by omega) (by omega) h3
    subst this
    exact h2 ⟨by omega, hd⟩
  · intro hd v
    rw [h.has rfl]
    constructor
    · rintro ⟨j, h1, h2, h3, h4⟩
      have := mKey_inj h0 ho (by omega) (by omega) h3
      subst this
      exact h4
    · rintro rfl
      exact ⟨i, hi, fun h => hd h.2, rfl, rfl⟩
theorem odd_of {a1 : Int} (h0 : 0 ≤ a1) (h1 : a1 < 18446744073709551616) (h : (Go.bits .and .u64 a1 1 == 1) = true) : a1 % 2 = 1 := by
  have h := beq_iff_eq.1 h
  rwa [odd_bit h0 h1] at h
set_option maxRecDepth 100000 in
set_option maxHeartbeats 4000000 in
theorem hutchlaw06_LookupMany.calls (a0 : Int) (a1 : Int) (a2 : Int) (a3 : Int) (r : Bool) (w : World) (h : hutchlaw06_LookupMany.f a0 a1 a2 a3 = some r) :
    Calls Try.prog 10 #[.int .u64 a0, .int .u64 a1, .int .u16 a2, .int .u8 a3] w fun e w' => e = .returned (.bool r) ∧ Below w.heap.size w w' := by
  unfold hutchlaw06_LookupMany.f at h
  by_cases hh : (0 ≤ a0 ∧ a0 < 18446744073709551616) ∧ (0 ≤ a1 ∧ a1 < 18446744073709551616) ∧ (0 ≤ a2 ∧ a2 < 65536) ∧ (0 ≤ a3 ∧ a3 < 256)
  case neg => rw [if_neg hh] at h; exact absurd h (by simp)
  rw [if_pos hh] at h
  obtain rfl : r = true := (Option.some.inj h).symm
  clear h
  obtain ⟨⟨p0, p1⟩, ⟨q0, q1⟩, ⟨m0, m1⟩, d0, d1⟩ := hh
  obtain ⟨n, hn⟩ : ∃ n : Nat, (n : Int) = a2 % 700 := ⟨(a2 % 700).toNat, by omega⟩
  have hn7 : n < 700 := by omega
  obtain ⟨od, hod⟩ : ∃ od, od = (Go.bits .and .u64 a1 1 == 1) := ⟨_, rfl⟩
  have hod' := hod.symm
  have HOD := Aside0.mk hod
  have HO := Aside0.mk (show od = true → a1 % 2 = 1 from fun h => odd_of q0 q1 (hod.symm.trans h))
  clear hod
  have HX := Aside0.mk (show a2 % 700 = (n : Int) from hn.symm)
  clear hn
  go_enter Try.func10, Try.ntmps10
  go_wp2_with (go_at_call 45; refine (lookup_New.calls (home := tabHome) (fun x => (tabHome_is 3 x (by decide) (by decide)).2)).mono ?_; rintro e w1 ⟨g, cs, t, rfl, h1, h2, h3, h4, h5, h6, h7, h8⟩; have HL := Aside0.mk (show Tab.Live 111 107 tabHome w w1 g cs t from ⟨h1, h2, h7, h8⟩); have HA := Aside0.mk (show ManyT od a0 a1 t 0 0 1 ∧ t.moves ≤ 0 from ⟨⟨fun _ k v => ⟨fun h => absurd h (h3 k v), fun ⟨j, h, _⟩ => by omega⟩, fun _ _ => h5, by omega, by omega, by omega⟩, by omega⟩); clear h1 h2 h3 h4 h5 h6 h7 h8)
  rw [HX.out]
  go_loopg [11, 12] n (fun kq v11 v12 w' => ∃ (i : Nat) (cs1 : Array Value) (t1 : Tab.Tb), v12 = .int .i64 (i : Int) ∧ v11 = .int .u64 (i : Int) ∧ i + kq = n ∧ Aside0 (Tab.Live 111 107 tabHome w w' g cs1 t1) ∧ Aside0 (ManyT od a0 a1 t1 i 0 1 ∧ t1.moves ≤ 4 * i))
  case atStart => exact ⟨0, cs, t, rfl, rfl, by omega, HL, by simpa using HA⟩
  case round =>
    obtain ⟨i, cs1, t1, rfl, rfl, hk, HL1, HA1⟩ := hrel
    have hi7 : i < 700 := by omega
    by_cases hlt : i < n
    · obtain ⟨k1, rfl⟩ : ∃ k1, gk = k1 + 1 := ⟨gk - 1, by omega⟩
      have HLT := Aside0.mk hlt
      go_wp2_with (go_at_call 46; refine (lookup_Table_Put.calls _ (i : Int) HL1.out.tab HL1.out.inv HA1.out.1.lo (by have := HA1.out.2; omega) (Tab.bits_lt HL1.out.inv.fit HA1.out.1.nl (by decide))).mono ?_; rintro e w2 ⟨b, cs2, t2, rfl, q1, q2, q3⟩; have HL2 := Aside0.mk (HL1.out.step q1 q2.inv q3); have HA2 := Aside0.mk q2; clear q1 q2 q3)
      have hm2 := HA2.out.hi
      go_roundg k1
      case measure => omega
      case rel => exact ⟨i + 1, cs2, t2, by go_num, by go_num, by omega, HL2, ⟨HA1.out.1.put q0 HO.out hi7 HA2.out, by have := HA1.out.2; push_cast; omega⟩⟩
    · obtain rfl : i = n := by omega
      obtain ⟨c, hc⟩ : ∃ c : Nat, (c : Int) = a3 % 7 + 2 := ⟨(a3 % 7 + 2).toNat, by omega⟩
      have hc2 : 2 ≤ c := by omega
      have hc8 : c ≤ 8 := by omega
      have HCC := Aside0.mk (show a3 % 7 + 2 = (c : Int) from hc.symm)
      clear hc
      obtain ⟨n, hin⟩ : ∃ n, n = i := ⟨_, rfl⟩
      subst hin
      cases od with
      | true =>
       have hl : Calls Try.prog 47 #[.pointer (some ⟨g, 0, none⟩)] wr fun e w' => e = .returned (.int .i64 (n : Int)) ∧ ∃ nd, w' = wr.drewN nd := by
        have := lookup_Table_Len.calls HL1.out.tab HL1.out.inv (Nat.le_trans HL1.out.inv.fit.small (by decide))
        rw [HA1.out.1.len rfl rfl] at this
        exact this
       have HLN := Aside0.mk hl
       clear hl
       go_wp2_with (go_at_call 47; (with_reducible refine HLN.out.mono ?_); rintro e w2 ⟨rfl, nd, rfl⟩)
       rw [HCC.out]
       go_loopg [11, 14] n (fun kq v11 v14 w' => ∃ (j cc : Nat) (cs1 : Array Value) (t1 : Tab.Tb), v14 = .int .i64 (j : Int) ∧ v11 = .int .u64 (cc : Int) ∧ n ≤ j + kq ∧ j ≤ n + 10 ∧ cc ≤ n + j ∧ Aside0 (c ∣ j) ∧ Aside0 (Tab.Live 111 107 tabHome w w' g cs1 t1) ∧ Aside0 (ManyT true a0 a1 t1 n j c ∧ t1.moves ≤ 4 * cc))
       case atStart => exact ⟨0, n, _, _, rfl, rfl, by omega, by omega, by omega, ⟨⟨0, rfl⟩⟩, ⟨HL1.out.drewN nd⟩, ⟨HA1.out.1.re, HA1.out.2⟩⟩
       case round =>
         obtain ⟨j, cc, cs2, t2, rfl, rfl, hk2, hj, hcc, HD, HL2, HA2⟩ := hrel
         by_cases hlt2 : j < n
         · obtain ⟨k2, rfl⟩ : ∃ k2, gk = k2 + 1 := ⟨gk - 1, by omega⟩
           have HLT := Aside0.mk hlt2
           go_wp2_with (go_at_call 48; refine (lookup_Table_Drop.calls _ HL2.out.tab HL2.out.inv HA2.out.1.lo (by have := HA2.out.2; omega)).mono ?_; rintro e w2 ⟨b, cs3, t3, rfl, q1, q2, q3⟩; have HL3 := Aside0.mk (HL2.out.step q1 q2.inv q3); have HA3 := Aside0.mk q2; clear q1 q2 q3)
           have hm2 := HA3.out.hi
           have hm3 := HA2.out.2
           go_roundg k2
           case measure => omega
           case rel => exact ⟨j + c, cc + 1, cs3, t3, by go_num, by go_num, by omega, by omega, by omega, ⟨(Nat.dvd_add_right HD.out).2 (Nat.dvd_refl c)⟩, HL3, ⟨HA2.out.1.drop q0 (fun _ => HO.out (by first | trivial | rfl)) hc2 hlt2 hn7 HD.out HA3.out, by push_cast; omega⟩⟩
         · have HLT := Aside0.mk hlt2
           have hmv := HA2.out.2
           have hm0 := HA2.out.1.lo
           have hm := lookup_Table_Moves.calls HL2.out.tab
           obtain ⟨m, hmm⟩ : ∃ m, m = t2.moves := ⟨_, rfl⟩
           rw [← hmm] at hmv hm0 hm
           have HM := Aside0.mk hm
           have HMM := Aside0.mk hmm
           clear hm hmm
           have b1 : decide (m ≤ 4 * (cc : Int)) = true := decide_eq_true hmv
           go_wp2
           go_loopg [15, 16, 17] n (fun kq v15 v16 v17 w' => ∃ (i : Nat), v15 = .int .i64 (i : Int) ∧ i + kq = n ∧ Aside0 (Tab.Live 111 107 tabHome w w' g cs2 t2))
           case atStart => exact ⟨0, rfl, by omega, HL2⟩
           case round =>
             obtain ⟨i, rfl, hk3, HL3⟩ := hrel
             have hm := lookup_Table_Moves.calls HL3.out.tab
             rw [← HMM.out] at hm
             have HM := Aside0.mk hm
             clear hm
             by_cases hlt3 : i < n
             · obtain ⟨k3, rfl⟩ : ∃ k3, gk = k3 + 1 := ⟨gk - 1, by omega⟩
               obtain ⟨f1, f2⟩ := HA2.out.1.find q0 (HO.out (by first | trivial | rfl)) (by have := HLT.out; omega) hlt3 hn7
               have HLT3 := Aside0.mk hlt3
               by_cases hd : c ∣ i
               · have hr : (i : Int) % (c : Int) = 0 := by
                   obtain ⟨x, hx⟩ := hd
                   rw [hx]; push_cast
                   exact Int.mul_emod_right _ _
                 have HF := Aside0.mk (f1 hd)
                 clear f1 f2 hd
                 go_wp2_with (go_at_call 49; refine (lookup_Table_Find.calls _ HL3.out.tab HL3.out.inv).mono ?_; rintro e w2 ⟨nn, b, rfl, g1, g2, nd, rfl⟩; obtain rfl : b = false := (by cases b with | false => rfl | true => exact absurd (g1 rfl) (HF.out _)); obtain ⟨rfl, _⟩ := g2 rfl; clear g1 g2)
                 go_roundg k3
                 case measure => omega
                 case rel => exact ⟨i + 1, by go_num, by omega, ⟨HL3.out.drewN _⟩⟩
               · have hr : ((i : Int) % (c : Int) == 0) = false := by
                   refine beq_eq_false_iff_ne.2 (fun hx => hd ?_)
                   have := Int.dvd_of_emod_eq_zero hx
                   exact Int.natCast_dvd_natCast.1 this
                 have hr2 : ¬ ((i : Int) % (c : Int) = 0) := beq_eq_false_iff_ne.1 hr
                 have hr3 : ((i : Int) % (c : Int) != 0) = true := by rw [bne, hr]; rfl
                 have HF := Aside0.mk (f2 hd)
                 clear f1 f2 hd
                 go_wp2_with (go_at_call 49; refine (lookup_Table_Find.calls _ HL3.out.tab HL3.out.inv).mono ?_; rintro e w2 ⟨nn, b, rfl, g1, g2, nd, rfl⟩; obtain rfl : b = true := (by cases b with | true => rfl | false => exact absurd ((HF.out _).2 rfl) ((g2 rfl).2 _)); obtain rfl : nn = (i : Int) := (HF.out _).1 (g1 rfl); clear g1 g2)
                 go_roundg k3
                 case measure => omega
                 case rel => exact ⟨i + 1, by go_num, by omega, ⟨HL3.out.drewN _⟩⟩
             · go_wp2_with (first
                 | (go_at_call 50; (with_reducible refine HM.out.mono ?_); rintro e w2 ⟨rfl, rfl⟩)
                 | (go_at_call 51; (with_reducible refine (hutchlaw06_alive.calls _).mono ?_); rintro e w2 ⟨rfl, hb⟩))
               go_ret
               exact ⟨rfl, HL3.out.below.trans (hb.mono HL3.out.below.size)⟩
      | false =>
       go_wp2
       rw [HCC.out]
       go_loopg [11, 14] n (fun kq v11 v14 w' => ∃ (j cc : Nat) (cs1 : Array Value) (t1 : Tab.Tb), v14 = .int .i64 (j : Int) ∧ v11 = .int .u64 (cc : Int) ∧ n ≤ j + kq ∧ j ≤ n + 10 ∧ cc ≤ n + j ∧ Aside0 (c ∣ j) ∧ Aside0 (Tab.Live 111 107 tabHome w w' g cs1 t1) ∧ Aside0 (ManyT false a0 a1 t1 n j c ∧ t1.moves ≤ 4 * cc))
       case atStart => exact ⟨0, n, _, _, rfl, rfl, by omega, by omega, by omega, ⟨⟨0, rfl⟩⟩, HL1, ⟨HA1.out.1.re, HA1.out.2⟩⟩
       case round =>
         obtain ⟨j, cc, cs2, t2, rfl, rfl, hk2, hj, hcc, HD, HL2, HA2⟩ := hrel
         by_cases hlt2 : j < n
         · obtain ⟨k2, rfl⟩ : ∃ k2, gk = k2 + 1 := ⟨gk - 1, by omega⟩
           have HLT := Aside0.mk hlt2
           go_wp2_with (go_at_call 48; refine (lookup_Table_Drop.calls _ HL2.out.tab HL2.out.inv HA2.out.1.lo (by have := HA2.out.2; omega)).mono ?_; rintro e w2 ⟨b, cs3, t3, rfl, q1, q2, q3⟩; have HL3 := Aside0.mk (HL2.out.step q1 q2.inv q3); have HA3 := Aside0.mk q2; clear q1 q2 q3)
           have hm2 := HA3.out.hi
           have hm3 := HA2.out.2
           go_roundg k2
           case measure => omega
           case rel => exact ⟨j + c, cc + 1, cs3, t3, by go_num, by go_num, by omega, by omega, by omega, ⟨(Nat.dvd_add_right HD.out).2 (Nat.dvd_refl c)⟩, HL3, ⟨HA2.out.1.drop q0 HO.out hc2 hlt2 hn7 HD.out HA3.out, by push_cast; omega⟩⟩
         · have HLT := Aside0.mk hlt2
           have hmv := HA2.out.2
           have hm0 := HA2.out.1.lo
           have hm := lookup_Table_Moves.calls HL2.out.tab
           obtain ⟨m, hmm⟩ : ∃ m, m = t2.moves := ⟨_, rfl⟩
           rw [← hmm] at hmv hm0 hm
           have HM := Aside0.mk hm
           have HMM := Aside0.mk hmm
           clear hm hmm
           have b1 : decide (m ≤ 4 * (cc : Int)) = true := decide_eq_true hmv
           go_wp2_with (first
             | (go_at_call 50; (with_reducible refine HM.out.mono ?_); rintro e w2 ⟨rfl, rfl⟩)
             | (go_at_call 51; (with_reducible refine (hutchlaw06_alive.calls _).mono ?_); rintro e w2 ⟨rfl, hb⟩))
           go_ret
           exact ⟨rfl, HL2.out.below.trans (hb.mono HL2.out.below.size)⟩
/-- THE ONE PURE STATEMENT of hutchlaw06_LookupMany. -/
def hutchlaw06_LookupMany.Pure : Prop := ∀ (a0 : Int) (a1 : Int) (a2 : Int) (a3 : Int), (Lit.int .u64 a0).wf = true → (Lit.int .u64 a1).wf = true → (Lit.int .u16 a2).wf = true → (Lit.int .u8 a3).wf = true → hutchlaw06_LookupMany.f a0 a1 a2 a3 = some true

-- NOT PRINTED: function 95 (slices_Sort_uint64_uint64)


/-! ### lookup_Table_Keys: function 59 -/
-- by hand
set_option maxRecDepth 100000 in
set_option maxHeartbeats 4000000 in
theorem lookup_Table_Keys.nil (w : World) : Calls Try.prog 59 #[.pointer none] w fun e w' => e = .returned (.slice none 0 0) ∧ w' = w := by
  go_enter Try.func59, Try.ntmps59
  go_wp2
  go_ret
  exact ⟨rfl, rfl⟩


/-! ### hutchlaw06_LookupNil: function 14 -/
-- by hand
/-- What the arguments are known to be. -/
def hutchlaw06_LookupNil.f (a0 : Int) (a1 : Int) : Option (Bool) := some true
set_option maxRecDepth 100000 in
set_option maxHeartbeats 4000000 in
theorem hutchlaw06_LookupNil.calls (a0 : Int) (a1 : Int) (r : Bool) (w : World) (h : hutchlaw06_LookupNil.f a0 a1 = some r) :
    Calls Try.prog 14 #[.int .u64 a0, .int .i32 a1] w fun e w' => e = .returned (.bool r) ∧ Below w.heap.size w w' := by
  obtain rfl : r = true := (Option.some.inj h).symm
  clear h
  go_enter Try.func14, Try.ntmps14
  go_wp2_with (first
    | (go_at_call 49; (with_reducible refine (lookup_Table_Find.nil _ _).mono ?_); rintro e w2 ⟨rfl, rfl⟩)
    | (go_at_call 46; (with_reducible refine (lookup_Table_Put.nil _ _ _).mono ?_); rintro e w2 ⟨rfl, rfl⟩)
    | (go_at_call 48; (with_reducible refine (lookup_Table_Drop.nil _ _).mono ?_); rintro e w2 ⟨rfl, rfl⟩)
    | (go_at_call 47; (with_reducible refine (lookup_Table_Len.nil _).mono ?_); rintro e w2 ⟨rfl, rfl⟩)
    | (go_at_call 61; (with_reducible refine (lookup_Table_Slots.nil _).mono ?_); rintro e w2 ⟨rfl, rfl⟩)
    | (go_at_call 59; (with_reducible refine (lookup_Table_Keys.nil _).mono ?_); rintro e w2 ⟨rfl, rfl⟩)
    | (go_at_call 50; (with_reducible refine (lookup_Table_Moves.nil _).mono ?_); rintro e w2 ⟨rfl, rfl⟩)
    | (go_at_call 51; (with_reducible refine (hutchlaw06_alive.calls _).mono ?_); rintro e w2 ⟨rfl, hb⟩))
  go_ret
  exact ⟨rfl, by first | exact hb | simpa using hb⟩

/-- THE ONE PURE STATEMENT of hutchlaw06_LookupNil. -/
def hutchlaw06_LookupNil.Pure : Prop := ∀ (a0 : Int) (a1 : Int), (Lit.int .u64 a0).wf = true → (Lit.int .i32 a1).wf = true → hutchlaw06_LookupNil.f a0 a1 = some true

end Go.Proofs.Ytdjbpdahdakfjaa.PLook
