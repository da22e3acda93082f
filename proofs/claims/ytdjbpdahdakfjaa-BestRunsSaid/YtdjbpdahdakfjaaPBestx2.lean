-- Written by a program of this session (a turned copy of the kit's printer, texts of this session's own for functions that it does not take).
import Derived.Test.YtdjbpdahdakfjaaPBestx0
import Derived.Test.YtdjbpdahdakfjaaPBestx1
namespace Go.Proofs.Ytdjbpdahdakfjaa.PBest
open Go.RowKit Go.Proofs.YtdjbpdahdakfjaaH Go.Proofs.YtdjbpdahdakfjaaW.PrintWords Go.Proofs.YtdjbpdahdakfjaaW.PrintLast Go.Proofs.YtdjbpdahdakfjaaW.PrintMore
attribute [local go_sem] max2_int min2_int max_two min_two max_three min_three max_four min_four   -- for this text's walks alone
set_option linter.unusedVariables false
set_option linter.unusedSimpArgs false


/-! ### best_held_122: function 122 -/
-- by hand
set_option maxRecDepth 1000000 in
set_option maxHeartbeats 4000000 in
theorem best_delete.calls (g cap n i : Nat) (cur : Array Value) (w : World) (hb : w.heap[g]? = some (.cells cur 138 (0, 0))) (hcs : cur.size = cap * 2) (hn : n ≤ cap) (hm : cap ≤ 9223372036854775807) (hi : i < n) (h1 : ∀ u ∈ cur.toList.take (n * 2), u.oneCell' = true) :
    Calls Try.prog 122 #[.slice (some ⟨g, 0, none⟩) n cap, .int .i64 i, .int .i64 ((i : Int) + 1)] w fun e w' => e = .returned (.slice (some ⟨g, 0, none⟩) (n - 1) cap) ∧ ∃ cur', w'.heap[g]? = some (.cells cur' 138 (0, 0)) ∧ cur'.size = cur.size ∧ cur'.toList.take ((n - 1) * 2) = cur.toList.take (i * 2) ++ (cur.toList.take (n * 2)).drop (i * 2 + 2) ∧ w.grownBy w' (some g) := by
  obtain ⟨i0, hi0, hzz⟩ := Option.map_eq_some_iff.1 info138
  simp only [Prod.mk.injEq] at hzz
  obtain ⟨hz0, hz1, hz2⟩ := hzz
  obtain ⟨news, hnews⟩ : ∃ news, news = (cur.toList.take (n * 2)).drop (i * 2 + 2) := ⟨_, rfl⟩
  have hlen : news.length = (n - (i + 1)) * 2 := by rw [hnews]; simp; omega
  have hat : ∀ t, t < (n - (i + 1)) * 2 → news[t]? = cur[(i + 1) * 2 + t]? := by
    intro t ht
    rw [hnews, List.getElem?_drop, List.getElem?_take, if_pos (by omega), Array.getElem?_toList]
    congr 1
    omega
  have hcell : ∀ t, t < cap * 2 → w.cell? ⟨g, t, none⟩ = cur[t]? := fun t _ => blk_cell hb t
  have hfro : ∀ t, w.frozen? ⟨g, t, none⟩ = false := fun t => blk_frozen hb t
  obtain ⟨A, hA, hsrc⟩ : ∃ A : Addr, (if cap = i + 1 then some (⟨g, 0, none⟩ : Addr) else some ⟨g, (i + 1) * 2, none⟩) = some A ∧ Hid (∀ t u, news[t]? = some u → w.drew.cell? (A.add t) = some u) := by
    by_cases h : cap = i + 1
    · refine ⟨⟨g, 0, none⟩, by simp [h], fun t u hu => ?_⟩
      have h0 : news.length = 0 := by rw [hlen]; omega
      rw [List.length_eq_zero_iff.1 h0] at hu
      simp at hu
    · refine ⟨⟨g, (i + 1) * 2, none⟩, by simp [h], fun t u hu => ?_⟩
      have ht : t < (n - (i + 1)) * 2 := by
        have := (List.getElem?_eq_some_iff.1 hu).1
        rwa [hlen] at this
      rw [Addr.add_lit]
      exact (hcell _ (by omega)).trans ((hat t ht).symm.trans hu)
  have s1 : Hid (news.length = (n - (i + 1)) * 2) := hlen
  have s2 : Hid (∀ u ∈ news, u.oneCell' = true) := fun u hu => h1 u (by rw [hnews] at hu; exact List.mem_of_mem_drop hu)
  have s3 : Hid (∀ t, t < news.length → (w.drew.cell? ⟨g, 0 + i * 2 + t, none⟩).isSome = true ∧ w.drew.frozen? ⟨g, 0 + i * 2 + t, none⟩ = false) := by
    intro t ht
    rw [hlen] at ht
    refine ⟨?_, hfro _⟩
    show (w.cell? _).isSome = true
    rw [hcell _ (by omega), Array.getElem?_eq_getElem (by omega)]
    rfl
  obtain ⟨W1, hW1⟩ : ∃ W1, W1 = w.drew.setCells g (0 + i * 2) news := ⟨_, rfl⟩
  obtain ⟨cur1, hb1, hcs1, hl1⟩ := setCells_row news (0 + i * 2) w.drew cur hb (by rw [hlen]; omega)
  rw [← hW1] at hb1
  obtain ⟨cur2, hb2, hcs2, hl2⟩ := setCells_row [.int .u64 0, .int .i64 0] ((n - 1) * 2) W1 cur1 hb1 (by simp; omega)
  have hcl : ∀ ty, (Builtin.clear_ #[133] ty #[.slice (some ⟨g, (n - 1) * 2, none⟩) 1 (cap - (n - 1))]).run Try.prog W1 = .ok (.tuple #[]) (W1.setCells g ((n - 1) * 2) [.int .u64 0, .int .i64 0]) := fun ty =>
    run_clear_pair W1 _ _ ty (.agg #[.int .u64 0, .int .i64 0]) _ _ Try.underlying133 (fun w => by kernel_rfl) rfl rfl rfl g _ _ (fun j hj => by rw [blk_cell hb1, Array.getElem?_eq_getElem (by omega)]; rfl) (fun j hj => blk_frozen hb1 _)
  have hgr : Hid (w.grownBy (W1.setCells g ((n - 1) * 2) [.int .u64 0, .int .i64 0]) (some g)) := by
    obtain ⟨o1, o2, o3, o4⟩ := setCells_same g news (0 + i * 2) w.drew
    obtain ⟨q1, q2, q3, q4⟩ := setCells_same g [.int .u64 0, .int .i64 0] ((n - 1) * 2) W1
    rw [← hW1] at o1 o2 o3 o4
    refine ⟨q1.trans o1, q2.trans o2, q3.trans o3, by rw [q4, o4]; exact Nat.le_refl _, fun k hk hne => ?_⟩
    have hkg : k ≠ g := fun e => hne (by rw [e])
    rw [setCells_far _ _ k hkg, hW1, setCells_far _ _ k hkg]
    rfl
  have hfin : Hid (∃ cur', (W1.setCells g ((n - 1) * 2) [.int .u64 0, .int .i64 0]).heap[g]? = some (.cells cur' 138 (0, 0)) ∧ cur'.size = cur.size ∧ cur'.toList.take ((n - 1) * 2) = cur.toList.take (i * 2) ++ news) := by
    refine ⟨cur2, hb2, hcs2.trans hcs1, ?_⟩
    have e1 : (cur1.toList.take ((n - 1) * 2)).length = (n - 1) * 2 := by rw [List.length_take, Array.length_toList]; omega
    rw [hl2, List.append_assoc, List.take_append_of_le_length (by omega), List.take_take, Nat.min_self, hl1, Nat.zero_add]
    have e2 : (cur.toList.take (i * 2)).length = i * 2 := by rw [List.length_take, Array.length_toList]; omega
    have e3 : (cur.toList.take (i * 2) ++ news).length = (n - 1) * 2 := by rw [List.length_append, e2, hlen]; omega
    rw [List.take_append_of_le_length (by omega), List.take_of_length_le (by omega)]
  have hW : Hid (W1 = w.drew.setCells g (0 + i * 2) news) := hW1
  have hic : i ≤ cap := by omega
  have hjc : i + 1 ≤ cap := by omega
  have hjn : (i : Int) + 1 ≤ (n : Int) := by omega
  have hjn2 : i + 1 ≤ n := by omega
  have hwr : (0 : Int) ≤ (i : Int) + 1 := by omega
  have hp2 : ((i : Int) + 1).toNat = i + 1 := by omega
  have hne : ((i : Int) == (i : Int) + 1) = false := beq_eq_false_iff_ne.2 (by omega)
  have hsz : Hid (i + (n - (i + 1)) = n - 1) := (by omega : i + (n - (i + 1)) = n - 1)
  have hq1 : n - 1 ≤ n := by omega
  have hq2 : n ≤ cap := hn
  have hq3 : n - (n - 1) = 1 := by omega
  have hq4 : ¬ (cap = n - 1) := by omega
  rw [← hnews]
  clear hW1 hb1 hb2 hcs1 hcs2 hl1 hl2 hcell hfro hat hlen hnews hb hcs h1 hz0 hz2
  go_enter Try.func122, Try.ntmps122
  go_wp2_with fail
  go_region_law (refine step_append_room rfl (.tmp 22) (.tmp 25) 133 rfl 138 i0 2 Try.underlying133 hi0 hz1 g 0 i cap (by simp [Act.eval, Act.put]) A (n - (i + 1)) (cap - (i + 1)) news (by simp [Act.eval, Act.put]) s1.out hsrc.out s2.out (by omega) s3.out ?_; rw [← hW.out, hsz.out])
  go_wp2
  go_ret
  obtain ⟨c', k1, k2, k3⟩ := hfin.out
  exact ⟨rfl, c', k1, k2, k3, hgr.out⟩

theorem best_delete.R (base : Nat) (ok : Nat → Prop) (v : Value) (l : List S138) (i : Nat) (w : World) (hR : Kd.R k138 138 w base ok v l) (hi : i < l.length) :
    Calls Try.prog 122 #[v, .int .i64 i, .int .i64 ((i : Int) + 1)] w fun e w' => ∃ v', e = .returned v' ∧ Kd.R k138 138 w' base ok v' (l.eraseIdx i) ∧ w.grownBy w' v.ownBlock ∧ v'.ownBlock = v.ownBlock := by
  obtain ⟨h0, inner, ho, hr⟩ := hR
  rcases ho.2 with ⟨rfl, hn⟩ | ⟨g, cap, cur, rfl, hbg, hg, hnc, hcm, hcs, htake⟩
  · omega
  · have hcs : cur.size = cap * 2 := hcs
    have htake : cur.toList.take (l.length * 2) = inner := htake
    have hil : inner.length = l.length * 2 := ho.1
    have hone : ∀ u ∈ inner, u.oneCell' = true := by
      intro u hu
      obtain ⟨t, ht, rfl⟩ := List.getElem_of_mem hu
      have hj : t / 2 < l.length := by omega
      have := hr.2 (t / 2) l[t / 2] (List.getElem?_eq_getElem hj)
      have hk := k138.K_one (k138.K_of_M this) inner[t]
      apply hk
      show inner[t] ∈ (inner.drop (t / 2 * 2)).take 2
      rw [List.mem_iff_getElem]
      refine ⟨t % 2, ?_, ?_⟩
      · rw [List.length_take, List.length_drop]; omega
      · rw [List.getElem_take, List.getElem_drop]
        congr 1
        omega
    refine (best_delete.calls g cap l.length i cur w hg hcs hnc hcm hi (by rw [htake]; exact hone)).mono ?_
    rintro e w' ⟨rfl, cur', k1, k2, k3, k4⟩
    rw [htake] at k3
    have htt : cur.toList.take (i * 2) = inner.take (i * 2) := by rw [← htake, List.take_take]; congr 1; omega
    rw [htt] at k3
    have hle : (l.eraseIdx i).length = l.length - 1 := by rw [List.length_eraseIdx]; split <;> omega
    refine ⟨_, rfl, ⟨h0, inner.take (i * 2) ++ inner.drop (i * 2 + 2), ⟨?_, .inr ⟨g, cap, cur', by rw [hle], hbg, k1, by rw [hle]; omega, hcm, by rw [k2]; exact hcs, by rw [hle]; exact k3⟩⟩, ?_⟩, k4, rfl⟩
    · rw [hle, List.length_append, List.length_take, List.length_drop, hil]
      show _ = (l.length - 1) * 2
      omega
    · rw [List.eraseIdx_eq_take_drop_succ, show i * 2 + 2 = (i + 1) * 2 by omega]
      exact (Kd.reps_append (Kd.reps_take hr (by omega)) (Kd.reps_drop hr)).imp_ (fun p c h => by rw [k138_openM h]; exact k138_mkM _ _ _ _)


/-! ### best_run_ask: function 101 -/
-- by hand
/-- What an asking leaves. -/
def best_ask.f (f0 : List S138) (f1 : List Int) (e : Int) (h : S138) (size : Int) : Option (Bool × List S138 × List Int) :=
  if f0.length ≤ 1000000 ∧ f1.length ≤ 1000000 then
    if 0 ≤ heldAt f0 h.f0 then some (true, f0.set (heldAt f0 h.f0).toNat h, f1)
    else if (f0.length : Int) = size then if f0 = [] then none else some (false, f0.eraseIdx (worstTo f0 e f0.length) ++ [h], f1 ++ [(rd_T138 f0 (worstTo f0 e f0.length : Nat)).f0])
    else some (false, f0 ++ [h], f1)
  else none
theorem RunS.drew {W : World} {base g : Nat} {v0 v1 : Value} {f0 : List S138} {f1 : List Int} {e : Int} (h : RunS W base g v0 v1 f0 f1 e) : RunS W.drew base g v0 v1 f0 f1 e := ⟨h.blk, h.ge, Kd.R_drew h.k, Kd.R_drew h.n⟩
theorem FrT.drew (W : World) : FrT W W.drew := ⟨Nat.le_refl _, fun _ _ _ _ h _ _ _ => h⟩
/-- The asker's box lies where it lay. -/
theorem held_box {w w1 w2 w3 : World} {base g : Nat} {v0 v1 : Value} {f0 : List S138} {f1 : List Int} {e : Int} {h : S138} (hS : RunS w2 base g v0 v1 f0 f1 e) (hA : Below w.heap.size w (w.alloc (.cells #[.int .u64 h.f0, .int .i64 h.f1] 138)))
    (h1 : Below (w.alloc (.cells #[.int .u64 h.f0, .int .i64 h.f1] 138)).heap.size (w.alloc (.cells #[.int .u64 h.f0, .int .i64 h.f1] 138)) w1) (h2 : Below w1.heap.size w1 w2) (h3 : w2.drew.grownBy w3 v1.ownBlock) (hne : w.heap.size ≠ g) (u : Value) :
    (w3.setCell ⟨g, 1, none⟩ u).heap[w.heap.size]? = some (.cells #[.int .u64 h.f0, .int .i64 h.f1] 138 (0, 0)) := by
  have k0 : (w.alloc (.cells #[.int .u64 h.f0, .int .i64 h.f1] 138)).heap[w.heap.size]? = some (.cells #[.int .u64 h.f0, .int .i64 h.f1] 138 (0, 0)) := blk_new _ _
  have k1 := (h1.block w.heap.size (blk_lt k0)).trans k0
  have k2 := (h2.block w.heap.size (blk_lt k1)).trans k1
  have k3 : w3.heap[w.heap.size]? = some (.cells #[.int .u64 h.f0, .int .i64 h.f1] 138 (0, 0)) := by
    refine (h3.block w.heap.size (blk_lt k2) fun hv => ?_).trans k2
    obtain ⟨inner, ho⟩ := Kd.R_own hS.n
    obtain ⟨cells, hc⟩ := own_typed ho _ hv.symm
    rw [k2] at hc
    injection hc with hc
    injection hc with _ ht
    exact absurd ht (by decide)
  exact (Below.heap_setCell w3 ⟨g, 1, none⟩ u _ hne).trans k3
theorem heldAt_cases (l : List S138) (key : Int) : (∃ m : Nat, m < l.length ∧ heldAt l key = m) ∨ heldAt l key = -1 := by
  unfold heldAt
  cases h : l.findIdx? (fun x => x.f0 == key) with
  | none => exact .inr rfl
  | some i =>
    refine .inl ⟨i, ?_, rfl⟩
    obtain ⟨hi, _⟩ := List.findIdx?_eq_some_iff_getElem.1 h
    exact hi
theorem held_slice {W : World} {base : Nat} {v : Value} {f0 : List S138} (h : Kd.R k138 138 W base (fun _ => True) v f0) (hl : 0 < f0.length) : ∃ b cap, v = .slice (some ⟨b, 0, none⟩) f0.length cap ∧ f0.length ≤ cap ∧ b < W.heap.size ∧ base ≤ b ∧ ∃ cur : Array Value, W.heap[b]? = some (.cells cur 138 (0, 0)) ∧ cur.size = cap * 2 := by
  obtain ⟨inner, ho⟩ := Kd.R_own h
  rcases ho.2 with ⟨rfl, hn⟩ | ⟨b, cap, cur, rfl, hbg, hg, hnc, hcm, hcs, htake⟩
  · omega
  · exact ⟨b, cap, rfl, hnc, blk_lt hg, hbg, cur, hg, hcs⟩
theorem held_cells {W : World} {base b c : Nat} {f0 : List S138} (h : Kd.R k138 138 W base (fun _ => True) (.slice (some ⟨b, 0, none⟩) f0.length c) f0) (m : Nat) (hm : m < f0.length) :
    W.cell? ⟨b, m * 2, none⟩ = some (.int .u64 (rd_T138 f0 (m : Int)).f0) ∧ W.cell? ⟨b, m * 2 + 1, none⟩ = some (.int .i64 (rd_T138 f0 (m : Int)).f1) ∧ ∀ j, W.frozen? ⟨b, j, none⟩ = false := by
  obtain ⟨b', c', he, _, _, _, cur, hcur, _⟩ := held_slice h (by omega)
  injection he with he1 he2 he3
  injection he1 with he1
  injection he1 with he1
  subst he1
  obtain ⟨ad, e1, hx0, hx1⟩ := at_T138 (Kd.R_reads' h).2.2 (m : Int) (by omega) (by omega)
  cases e1
  rw [Int.toNat_natCast, Addr.add_lit, Nat.zero_add] at hx0
  rw [Int.toNat_natCast, Addr.add_lit, Nat.zero_add] at hx1
  exact ⟨hx0, hx1, fun j => blk_frozen hcur j⟩
set_option maxRecDepth 1000000 in
set_option maxHeartbeats 4000000 in
theorem best_ask.calls (base g : Nat) (v0 v1 : Value) (f0 : List S138) (f1 : List Int) (e : Int) (h : S138) (size : Int) (r : Bool × List S138 × List Int) (w : World) (hS : RunS w base g v0 v1 f0 f1 e) (hr : best_ask.f f0 f1 e h size = some r) :
    Calls Try.prog 101 #[.pointer (some ⟨g, 0, none⟩), .agg #[.int .u64 h.f0, .int .i64 h.f1], .int .i64 size] w fun e_ w' => e_ = .returned (.bool r.1) ∧ ∃ v0' v1', RunS w' base g v0' v1' r.2.1 r.2.2 e ∧ Below base w w' ∧ FrT w w' := by
  unfold best_ask.f at hr
  by_cases hl : f0.length ≤ 1000000 ∧ f1.length ≤ 1000000
  · rw [if_pos hl] at hr
    obtain ⟨hl0, hl1⟩ := hl
    have HS := Aside0.mk hS
    have hc0 := hS.c0
    have hu138 := Try.underlying138
    have hglt : g < w.heap.size := blk_lt hS.blk
    have hbs : base ≤ w.heap.size := Nat.le_trans hS.ge (Nat.le_of_lt hglt)
    have HGL := Aside0.mk hglt
    have HBS := Aside0.mk hbs
    obtain ⟨bx, hbx⟩ : ∃ bx : Obj, bx = .cells #[.int .u64 h.f0, .int .i64 h.f1] 138 := ⟨_, rfl⟩
    have hcH : (w.alloc (.cells #[.int .u64 h.f0, .int .i64 h.f1] 138)).cell? ⟨w.heap.size, 0, none⟩ = some (.int .u64 h.f0) := (blk_cell (blk_new _ _) 0).trans rfl
    have hcH1 : (w.alloc (.cells #[.int .u64 h.f0, .int .i64 h.f1] 138)).cell? ⟨w.heap.size, 1, none⟩ = some (.int .i64 h.f1) := (blk_cell (blk_new _ _) 1).trans rfl
    have HCH := Aside0.mk hcH
    have HCH1 := Aside0.mk hcH1
    have HBA := Aside0.mk (below_alloc (Below.refl w.heap.size w) (.cells #[.int .u64 h.f0, .int .i64 h.f1] 138))
    clear hcH hcH1 hbs
    rcases heldAt_cases f0 h.f0 with ⟨m, hm, hmi⟩ | hmi
    · rw [hmi, if_pos (by omega), Int.toNat_natCast] at hr
      obtain rfl := Option.some.inj hr
      obtain ⟨b, c, rfl, hcl, hbl, hbb, cur, hcur, hcs⟩ := held_slice hS.k (by omega)
      have hC := (Kd.R_reads' hS.k).2.2
      have HCC := Aside0.mk (Kd.C_below hC HBA.out)
      have HCUR := Aside0.mk hcur
      have HCS := Aside0.mk hcs
      have HMI := Aside0.mk hmi
      clear hr hS hC hcur hcs hmi
      have p1 : (0 : Int) ≤ (m : Int) := by omega
      have q1 : (m : Int) < (f0.length : Int) := by omega
      have p2 := eq_true p1
      have q2 := eq_true q1
      go_enter Try.func101, Try.ntmps101
      go_wp2_with (go_at_call 119; go_loud (refine (best_indexFunc.calls (some ⟨b, 0, none⟩) c f0 h.f0 w.heap.size _ HCC.out hl0 HCH.out).mono ?_; rw [HMI.out]; rintro e_ w1 ⟨rfl, hb⟩; have HB1 := Aside0.mk hb; have HS1 := Aside0.mk ((HS.out.below HBA.out).below hb); clear hb hc0; have hc0 := HS1.out.c0; have hg1 : g < w1.heap.size := blk_lt HS1.out.blk; have hH0 := pw_cell_below HB1.out HCH.out; have hH1 := pw_cell_below HB1.out HCH1.out; obtain ⟨hz1, hz2, hfz⟩ := held_cells HS1.out.k m hm; have hf1 := hfz (m * 2); have hf2 := hfz (m * 2 + 1); clear hfz))
      go_region_law (fail)
      all_goals go_wp2
      all_goals go_ret
      all_goals (
        obtain ⟨k1, k2⟩ := held_put HS1.out.k m hm h
        have hs := HS1.out.same0 (by simpa [Value.ownBlock] using k2) k1
        refine ⟨rfl, _, _, hs.drew, ?_, ?_⟩
        · have hb1 : Below base w w1 := (HBA.out.trans (HB1.out.mono HBA.out.size)).mono HBS.out
          exact below_drew1 (hb1.grown k2 (Nat.le_trans HBS.out (Nat.le_trans HBA.out.size HB1.out.size)) (fun j hj => by cases hj; exact hbb))
        · exact ((FrT.below HBA.out).trans (FrT.below HB1.out)).trans ((FrT.grown HS1.out.k (by simpa [Value.ownBlock] using k2) (.inl rfl)).trans (FrT.drew _)))
    · rw [hmi, if_neg (by omega)] at hr
      obtain ⟨A, c, rfl, hcl, hC⟩ := Kd.R_reads hS.k
      have HCC := Aside0.mk (Kd.C_below hC HBA.out)
      have HMI := Aside0.mk hmi
      have HLL := Aside0.mk hl0
      clear hC hmi hS
      by_cases hsz : (f0.length : Int) = size
      · rw [if_pos hsz] at hr
        by_cases hne : f0 = []
        · rw [if_pos hne] at hr
          exact absurd hr (by simp)
        rw [if_neg hne] at hr
        obtain rfl := Option.some.inj hr
        have b1 : ((f0.length : Int) == size) = true := beq_iff_eq.2 hsz
        obtain ⟨m, hmd⟩ : ∃ m, m = worstTo f0 e f0.length := ⟨_, rfl⟩
        have hm : m < f0.length := by rw [hmd]; exact worstTo_lt _ _ _ (List.length_pos_iff.2 hne)
        rw [← hmd]
        have HMD := Aside0.mk hmd
        obtain ⟨b, c', hbc, hcl', hbl, hbb, cur, hcur, hcs⟩ := held_slice HS.out.k (by omega)
        injection hbc with hb1 hb2 hb3
        subst hb1 hb3
        obtain ⟨A1, c1, hv1⟩ := Kd.R_slice HS.out.n
        subst hv1
        have hble := Aside0.mk hbl
        clear hr hne hmd hbl hcur hcs hb2 hsz
        have p1 : (0 : Int) ≤ (m : Int) := by omega
        have q1 : (m : Int) < (f0.length : Int) := by omega
        have p2 := eq_true p1
        have q2 := eq_true q1
        have hwi : IntKind.i64.wrap ((m : Int) + 1) = (m : Int) + 1 := by rw [IntKind.wrap_i64]; omega
        obtain ⟨x, hx⟩ : ∃ x, x = (rd_T138 f0 (m : Int)).f0 := ⟨_, rfl⟩
        rw [← hx]
        have HX := Aside0.mk hx
        clear hx
        go_enter Try.func101, Try.ntmps101
        go_wp2_with (first
          | (go_at_call 119; go_loud (refine (best_indexFunc.calls (some ⟨b, 0, none⟩) c f0 h.f0 w.heap.size _ HCC.out hl0 HCH.out).mono ?_; rw [HMI.out]; rintro e_ w1 ⟨rfl, hb⟩; have HB1 := Aside0.mk hb; have HS1 := Aside0.mk ((HS.out.below HBA.out).below hb); have HBW := Aside0.mk ((HBA.out.trans (HB1.out.mono HBA.out.size)).mono HBS.out); clear hb hc0; have hc0 := HS1.out.c0))
          | (go_at_call 121; go_loud (refine (best_worst.calls base g _ _ f0 f1 e _ HS1.out hl0).mono ?_; rw [← HMD.out]; rintro e_ w2 ⟨rfl, hb⟩; have HB2 := Aside0.mk hb; have HS2 := Aside0.mk (HS1.out.below hb); have HBW2 := Aside0.mk (HBW.out.trans (hb.mono (Nat.le_trans HBS.out HBW.out.size))); clear hb hc0; have hc0 := HS2.out.c0; have hc1 := HS2.out.c1; obtain ⟨hz1, hz2, hfz⟩ := held_cells HS2.out.k m hm; rw [← HX.out] at hz1; clear hz2 hfz; have hg1 : g < w2.heap.size := blk_lt HS2.out.blk)))
        go_region_law (refine Kd.R_append_step (Kd.int .u64) (w0 := w) base (by rfl) (.tmp 37) (.tmp 46) 22 60 (.int .u64 0) 8 rfl Try.underlying22 info60 rfl (by decide) (by omega) (.slice A1 f1.length c1) f1 x [.int .u64 x] (fun _ => True) (fun _ => False) (by rfl) (by rfl) rfl (fun _ hk => hk.elim) (fun _ _ => trivial) (Kd.R_drew HS2.out.n) (below_drew1 HBW2.out) (Nat.le_trans HBS.out HBW2.out.size) (by omega) ?_; intro v3 w3 ho hb hg hat; obtain ⟨A3, c3, rfl⟩ := Kd.R_slice ho; have hb3 := HS2.out.drew.blkN hg; have hcg : w3.cell? ⟨g, 1, none⟩ = some (.slice A1 f1.length c1) := (blk_cell hb3 1).trans rfl; have hfg := blk_frozen hb3 1; have HO3 := Aside0.mk ho; have HB3 := Aside0.mk hb; have HG3 := Aside0.mk hg; clear ho hb hg hat hb3)
        all_goals (
          have hs3 := HS2.out.drew.turn1 HG3.out HO3.out
          have e_ : (f1 ++ [x]).length = f1.length + 1 := by simp
          rw [e_] at hs3
          have hb3 := HS2.out.drew.blkN HG3.out
          have HS3 := Aside0.mk hs3
          have HBW3 := Aside0.mk (HB3.out.setCell (p := ⟨g, 1, none⟩) HS.out.ge (.slice A3 (f1.length + 1) c3))
          have HF3 := Aside0.mk ((((FrT.below HBA.out).trans (FrT.below HB1.out)).trans (FrT.below HB2.out)).trans (((FrT.drew _).trans (FrT.grown HS2.out.drew.n HG3.out (.inr rfl))).trans (FrT.set hb3 1 (.slice A3 (f1.length + 1) c3))))
          have hHH : w.heap.size ≠ g := by omega
          have HBLK := Aside0.mk (held_box HS2.out (HBA.out) HB1.out HB2.out HG3.out hHH (.slice A3 (f1.length + 1) c3))
          clear hs3 hb3 hcg hfg hc0 hc1 hz1 hg1
          have hc0 := HS3.out.c0
          have hg3 : g < (w3.setCell ⟨g, 1, none⟩ (.slice A3 (f1.length + 1) c3)).heap.size := blk_lt HS3.out.blk
          obtain ⟨W3, hW3⟩ : ∃ W3, W3 = w3.setCell ⟨g, 1, none⟩ (.slice A3 (f1.length + 1) c3) := ⟨_, rfl⟩
          rw [← hW3] at HS3 HBW3 HF3 HBLK hg3 hc0 ⊢
          clear hW3
          go_wp2_with (go_at_call 122; go_loud (refine (best_delete.R base (fun _ => True) _ f0 m _ HS3.out.k hm).mono ?_; rintro e_ w4 ⟨v4, rfl, hk4, hg4, hv4⟩; obtain ⟨A4, c4, rfl⟩ := Kd.R_slice hk4; have hb4 := HS3.out.blkK hg4; have hcg : w4.cell? ⟨g, 0, none⟩ = some (.slice (some ⟨b, 0, none⟩) f0.length c) := (blk_cell hb4 0).trans rfl; have hfg := blk_frozen hb4 0; have HK4 := Aside0.mk hk4; have HG4 := Aside0.mk hg4; clear hk4 hg4 hv4 hb4))
          have hs4 := HS3.out.turn0 HG4.out HK4.out
          have HS4 := Aside0.mk hs4
          have hb4 := HS3.out.blkK HG4.out
          have HF4 := Aside0.mk ((HF3.out.trans (FrT.grown HS3.out.k HG4.out (.inl rfl))).trans (FrT.set hb4 0 (.slice A4 (f0.eraseIdx m).length c4)))
          have HBW4 := Aside0.mk ((HBW3.out.grown HG4.out (Nat.le_trans HBS.out HBW3.out.size) (fun j hj => by cases hj; exact hbb)).setCell (p := ⟨g, 0, none⟩) HS.out.ge (.slice A4 (f0.eraseIdx m).length c4))
          have hbx4 : (w4.setCell ⟨g, 0, none⟩ (.slice A4 (f0.eraseIdx m).length c4)).heap[w.heap.size]? = some (.cells #[.int .u64 h.f0, .int .i64 h.f1] 138 (0, 0)) :=
            (Below.heap_setCell w4 ⟨g, 0, none⟩ _ _ hHH).trans ((HG4.out.block w.heap.size (blk_lt HBLK.out) (by simp only [Value.ownBlock]; intro hv; injection hv with hv; have := hble.out; omega)).trans HBLK.out)
          have hll4 : (f0.eraseIdx m).length ≤ 1000000 := by have := List.length_eraseIdx_le f0 m; omega
          have HLL4 := Aside0.mk hll4
          obtain ⟨f4, hf4⟩ : ∃ f4, f4 = f0.eraseIdx m := ⟨_, rfl⟩
          rw [← hf4] at HS4 HF4 HBW4 hbx4 HLL4 ⊢
          have HFE := Aside0.mk hf4
          obtain ⟨W4, hW4⟩ : ∃ W4, W4 = w4.setCell ⟨g, 0, none⟩ (.slice A4 f4.length c4) := ⟨_, rfl⟩
          rw [← hW4] at HS4 HF4 HBW4 hbx4 ⊢
          clear hs4 hb4 hcg hfg hll4 hc0 hg3 hf4 hW4
          have hc0 := HS4.out.c0
          have hg4 : g < W4.heap.size := blk_lt HS4.out.blk
          have hH0 : W4.cell? ⟨w.heap.size, 0, none⟩ = some (.int .u64 h.f0) := (blk_cell hbx4 0).trans rfl
          have hH1 : W4.cell? ⟨w.heap.size, 1, none⟩ = some (.int .i64 h.f1) := (blk_cell hbx4 1).trans rfl
          clear hbx4
          go_region_law (refine Kd.R_append_step k138 (w0 := w) base (by rfl) (.tmp 65) (.tmp 67) 133 138 (.agg #[.int .u64 0, .int .i64 0]) 16 rfl Try.underlying133 info138 rfl (by decide) (by omega) (.slice A4 f4.length c4) f4 h [.int .u64 h.f0, .int .i64 h.f1] (fun _ => True) (fun _ => False) (by rfl) (by rfl) (k138_mkM _ _ _ _) (fun _ hk => hk.elim) (fun _ _ => trivial) (Kd.R_drew HS4.out.k) (below_drew1 HBW4.out) (Nat.le_trans HBS.out HBW4.out.size) (by have := HLL4.out; omega) ?_; intro v2 w5 ho hb hg hat; obtain ⟨A2, c2, rfl⟩ := Kd.R_slice ho; have hb5 := HS4.out.drew.blkK hg; have hcg : w5.cell? ⟨g, 0, none⟩ = some (.slice A4 f4.length c4) := (blk_cell hb5 0).trans rfl; have hfg := blk_frozen hb5 0; have HO5 := Aside0.mk ho; have HB5 := Aside0.mk hb; have HG5 := Aside0.mk hg; clear ho hb hg hat hb5)
          all_goals go_wp2
          all_goals go_ret
          all_goals (
            have hs := HS4.out.drew.turn0 HG5.out HO5.out
            have e_ : (f4 ++ [h]).length = f4.length + 1 := by simp
            rw [e_] at hs
            have hb5 := HS4.out.drew.blkK HG5.out
            obtain rfl := HFE.out
            exact ⟨rfl, _, _, hs, HB5.out.setCell HS.out.ge _, ((HF4.out.trans (FrT.drew _)).trans (FrT.grown HS4.out.drew.k HG5.out (.inl rfl))).trans (FrT.set hb5 0 _)⟩))
      · rw [if_neg hsz] at hr
        obtain rfl := Option.some.inj hr
        have b1 : ((f0.length : Int) == size) = false := beq_eq_false_iff_ne.2 hsz
        clear hr hsz
        go_enter Try.func101, Try.ntmps101
        go_wp2_with (go_at_call 119; go_loud (refine (best_indexFunc.calls A c f0 h.f0 w.heap.size _ HCC.out hl0 HCH.out).mono ?_; rw [HMI.out]; rintro e_ w1 ⟨rfl, hb⟩; have HB1 := Aside0.mk hb; have HS1 := Aside0.mk ((HS.out.below HBA.out).below hb); have HBW := Aside0.mk ((HBA.out.trans (HB1.out.mono HBA.out.size)).mono HBS.out); clear hb hc0; have hc0 := HS1.out.c0; have hg1 : g < w1.heap.size := blk_lt HS1.out.blk; have hH0 := pw_cell_below HB1.out HCH.out; have hH1 := pw_cell_below HB1.out HCH1.out))
        go_region_law (refine Kd.R_append_step k138 (w0 := w) base (by rfl) (.tmp 65) (.tmp 67) 133 138 (.agg #[.int .u64 0, .int .i64 0]) 16 rfl Try.underlying133 info138 rfl (by decide) (by omega) (.slice A f0.length c) f0 h [.int .u64 h.f0, .int .i64 h.f1] (fun _ => True) (fun _ => False) (by rfl) (by rfl) (k138_mkM _ _ _ _) (fun _ hk => hk.elim) (fun _ _ => trivial) (Kd.R_drew HS1.out.k) (below_drew1 HBW.out) (Nat.le_trans HBS.out HBW.out.size) (by have := HLL.out; omega) ?_; intro v2 w2 ho hb hg hat; obtain ⟨A2, c2, rfl⟩ := Kd.R_slice ho; have hb2 := HS1.out.drew.blkK hg; have hcg : w2.cell? ⟨g, 0, none⟩ = some (.slice A f0.length c) := (blk_cell hb2 0).trans rfl; have hfg := blk_frozen hb2 0; have HO2 := Aside0.mk ho; have HB2 := Aside0.mk hb; have HG2 := Aside0.mk hg; clear ho hb hg hat hb2)
        all_goals go_wp2
        all_goals go_ret
        all_goals (
          have hs := HS1.out.drew.turn0 HG2.out HO2.out
          have e_ : (f0 ++ [h]).length = f0.length + 1 := by simp
          rw [e_] at hs
          have hb2 := HS1.out.drew.blkK HG2.out
          exact ⟨rfl, _, _, hs, HB2.out.setCell HS.out.ge _, ((((FrT.below HBA.out).trans (FrT.below HB1.out)).trans (FrT.drew _)).trans (FrT.grown HS1.out.drew.k HG2.out (.inl rfl))).trans (FrT.set hb2 0 _)⟩)
  · rw [if_neg hl] at hr
    exact absurd hr (by simp)


/-! ### best_whole: function 71 -/
-- by hand
/-- A run as far as one has gone: hits, what is kept, what went. -/
def wholeTo (l : List Int) (size : Int) : Nat → Option (List Bool × List S138 × List Int)
  | 0 => some ([], [], [])
  | i + 1 => (wholeTo l size i).bind fun s => (best_ask.f s.2.1 s.2.2 (l.length : Int) ⟨rd l (i : Int), rd (nextOf l) (i : Int)⟩ size).bind fun r => some (s.1 ++ [r.1], r.2.1, r.2.2)
theorem wholeTo_before (l : List Int) (size : Int) (d : Nat) : ∀ j s, wholeTo l size (j + d) = some s → ∃ s', wholeTo l size j = some s' := by
  induction d with
  | zero => intro j s h; exact ⟨s, h⟩
  | succ d ih =>
    intro j s h
    rw [Nat.add_succ] at h
    simp only [wholeTo] at h
    obtain ⟨s', h', _⟩ := Option.bind_eq_some_iff.1 h
    exact ih j s' h'
theorem wholeTo_len (l : List Int) (size : Int) : ∀ j s, wholeTo l size j = some s → s.1.length = j := by
  intro j
  induction j with
  | zero => intro s h; cases h; rfl
  | succ j ih =>
    intro s h
    simp only [wholeTo] at h
    obtain ⟨s', h', h⟩ := Option.bind_eq_some_iff.1 h
    obtain ⟨r, _, h⟩ := Option.bind_eq_some_iff.1 h
    obtain rfl := Option.some.inj h
    simp [ih s' h']
def best_whole.f (l0 : List Int) (a1 : Int) : Option (List Bool × List Int) :=
  if a1 < 1 ∨ l0.length > 4096 then some ([], []) else if (∀ x ∈ l0, (Lit.int .u64 x).wf = true) then (wholeTo l0 a1 l0.length).map (fun s => (s.1, s.2.2)) else none
theorem FrT.row {α : Type} {d : Kd α} {base : Nat} {v : Value} {xs : List α} {w w1 : World} (hr : d.R 4 w base (fun _ => True) v xs) (hE : d.E = []) (h : FrT w w1) : d.R 4 w1 base (fun _ => True) v xs := by
  refine Kd.R_mono (Kd.R_step (Kd.R_bound hr) (fun k hk hlt => ?_)) (fun _ _ => trivial)
  obtain ⟨_, _, _, q, hq, cells, hc⟩ := hk
  rw [hE, List.mem_singleton] at hq
  subst hq
  rw [h.2 k cells 4 (0, 0) hc (by decide) (by decide) (by decide), hc]
theorem RunS.other {α : Type} {d : Kd α} {base base' g : Nat} {v0 v1 v : Value} {f0 : List S138} {f1 : List Int} {e : Int} {xs : List α} {W W1 : World} (h : RunS W base g v0 v1 f0 f1 e) (hr : d.R 4 W base' (fun _ => True) v xs) (hg : W.grownBy W1 v.ownBlock) : RunS W1 base g v0 v1 f0 f1 e := by
  obtain ⟨inner, ho⟩ := Kd.R_own hr
  have hne : ∀ {k : Nat} {cells : Array Value} {t : TypeId}, W.heap[k]? = some (.cells cells t (0, 0)) → t ≠ 4 → some k ≠ v.ownBlock := by
    intro k cells t hc ht hv
    obtain ⟨cells', hc'⟩ := own_typed ho k hv.symm
    rw [hc] at hc'
    injection hc' with hc'
    injection hc' with _ h4
    exact ht h4
  refine ⟨blk_grown h.blk hg (hne h.blk (by decide)), h.ge, ?_, ?_⟩
  · refine Kd.R_mono (Kd.R_step (Kd.R_bound h.k) (fun k hk hlt => hg.block k hlt ?_)) (fun _ _ => trivial)
    obtain ⟨_, _, _, q, hq, cells, hc⟩ := hk
    exact hne hc (by intro e; rw [e] at hq; exact absurd hq (by decide))
  · refine Kd.R_mono (Kd.R_step (Kd.R_bound h.n) (fun k hk hlt => hg.block k hlt ?_)) (fun _ _ => trivial)
    obtain ⟨_, _, _, q, hq, cells, hc⟩ := hk
    exact hne hc (by intro e; rw [e] at hq; exact absurd hq (by decide))
set_option maxRecDepth 100000 in
set_option maxHeartbeats 3200000 in
theorem best_whole.calls (A0 : Option Addr) (c0 : Nat) (l0 : List Int) (a1 : Int) (r1 : List Bool) (r2 : List Int) (w : World) (hr0 : Kd.C (Kd.int .u64) w A0 l0.length l0) (hc0 : l0.length ≤ c0) (h : best_whole.f l0 a1 = some (r1, r2)) :
    Calls Try.prog 71 #[.slice A0 l0.length c0, .int .i64 a1] w fun e w' => ∃ v0_ v1_ : Value, e = .returned (.tuple #[v0_, v1_]) ∧ Kd.R Kd.bool 4 w' w.heap.size (fun _ => True) v0_ r1 ∧ Kd.R (Kd.int .u64) 60 w' w.heap.size (fun _ => True) v1_ r2 ∧ Below w.heap.size w w' := by
  unfold best_whole.f at h
  by_cases hs : a1 < 1
  · rw [if_pos (.inl hs)] at h
    obtain ⟨rfl, rfl⟩ := Prod.mk.inj (Option.some.inj h)
    have b1 : decide (a1 < 1) = true := decide_eq_true hs
    clear h hs
    go_enter Try.func71, Try.ntmps71
    go_wp2
    go_ret2
    exact ⟨_, _, rfl, Kd.R_nil _ _ _ _ _, Kd.R_nil _ _ _ _ _, Below.refl _ _⟩
  have b1 : decide (a1 < 1) = false := decide_eq_false hs
  by_cases hl : l0.length > 4096
  · rw [if_pos (.inr hl)] at h
    obtain ⟨rfl, rfl⟩ := Prod.mk.inj (Option.some.inj h)
    have b2 : decide ((4096 : Int) < (l0.length : Int)) = true := decide_eq_true (by omega)
    have b3 : decide (4096 < l0.length) = true := decide_eq_true (by omega)
    clear h hs hl
    go_enter Try.func71, Try.ntmps71
    go_wp2
    go_ret2
    exact ⟨_, _, rfl, Kd.R_nil _ _ _ _ _, Kd.R_nil _ _ _ _ _, Below.refl _ _⟩
  rw [if_neg (fun hh => hh.elim hs hl)] at h
  have b2 : decide ((4096 : Int) < (l0.length : Int)) = false := decide_eq_false (by omega)
  have b3 : decide (4096 < l0.length) = false := decide_eq_false (by omega)
  by_cases hw : ∀ x ∈ l0, (Lit.int .u64 x).wf = true
  · rw [if_pos hw] at h
    obtain ⟨S, hS, hSr⟩ := Option.map_eq_some_iff.1 h
    obtain ⟨rfl, rfl⟩ := Prod.mk.inj hSr
    have hnx : reuse_Next.f l0 = some (nextOf l0) := by unfold reuse_Next.f; rw [if_pos ⟨by omega, hw⟩]
    have HR0 := Aside0.mk hr0
    have HC0 := Aside0.mk hc0
    have HNX := Aside0.mk hnx
    have HSS := Aside0.mk hS
    have hlen : l0.length ≤ 4096 := by omega
    clear h hSr hr0 hc0 hw hnx hS hs hl
    go_enter Try.func71, Try.ntmps71
    go_wp2_with (first
      | (go_at_call 100; go_loud (refine (reuse_Next.calls _ _ l0 _ _ HR0.out HC0.out HNX.out).mono ?_; rintro e w1 ⟨v, rfl, hO, hB⟩; obtain ⟨A, c, hv, hl, hr⟩ := Kd.R_reads hO; subst hv; have HRL := Aside0.mk hr; have HB1 := Aside0.mk hB; clear hO hB hl hr)))
    have HO0 : Aside0 (RunS (w1.alloc (.cells #[.slice none 0 0, .slice none 0 0, .int .i64 l0.length] 135)) w1.heap.size w1.heap.size (.slice none 0 0) (.slice none 0 0) [] [] (l0.length : Int)) := ⟨blk_new _ _, Nat.le_refl _, Kd.R_nil _ _ _ _ _, Kd.R_nil _ _ _ _ _⟩
    have HB0 := Aside0.mk (below_alloc (Below.refl w1.heap.size w1) (.cells #[.slice none 0 0, .slice none 0 0, .int .i64 l0.length] 135))
    go_loopw [26, 8, 9, 10] (fun v26 v8 v9 v10 wr => ∃ i : Nat, v26 = .int .i64 i ∧ i ≤ l0.length ∧ Aside0 (∃ s v0 v1, wholeTo l0 a1 i = some s ∧ Kd.R Kd.bool 4 wr w1.heap.size (fun _ => True) v8 s.1 ∧ RunS wr w1.heap.size w1.heap.size v0 v1 s.2.1 s.2.2 (l0.length : Int)) ∧ Aside0 (Below w1.heap.size w1 wr)) (fun v26 _ _ _ _ => l0.length - (intOf v26).toNat)
    case atStart => exact ⟨0, rfl, Nat.zero_le _, ⟨_, _, _, rfl, Kd.R_nil _ _ _ _ _, HO0.out⟩, HB0⟩
    case round =>
      clear HO0 HB0
      obtain ⟨i, rfl, hi, HO, HB⟩ := hrel
      by_cases hlt : i < l0.length
      · have p1 : (0 : Int) ≤ (i : Int) := by omega
        have q1 : (i : Int) < (l0.length : Int) := by omega
        have hnl : (nextOf l0).length = l0.length := nextTo_len _ _
        have q3 : (i : Int) < ((nextOf l0).length : Int) := by rw [hnl]; exact q1
        obtain ⟨ad, e1, hx⟩ := Kd.at_int HR0.out (i : Int) p1 q1
        cases e1
        obtain ⟨ad', e1, hy⟩ := Kd.at_int HRL.out (i : Int) p1 q3
        cases e1
        replace hx := pw_cell_below HB.out ((HB1.out.cell (World.block_lt_of_cell? w _ hx)).trans hx)
        replace hy := pw_cell_below HB.out hy
        rw [Int.toNat_natCast] at hx hy
        obtain ⟨s, v0, v1, hs, hR, hS⟩ := HO.out
        obtain ⟨s2, hs2⟩ := wholeTo_before l0 a1 (l0.length - (i + 1)) (i + 1) S (by rw [show i + 1 + (l0.length - (i + 1)) = l0.length by omega]; exact HSS.out)
        have hs3 := hs2
        simp only [wholeTo] at hs3
        rw [hs, Option.bind_some] at hs3
        obtain ⟨r, hr, hs3⟩ := Option.bind_eq_some_iff.1 hs3
        obtain rfl := Option.some.inj hs3
        obtain ⟨x, hxd⟩ : ∃ x, x = rd l0 (i : Int) := ⟨_, rfl⟩
        obtain ⟨y, hyd⟩ : ∃ y, y = rd (nextOf l0) (i : Int) := ⟨_, rfl⟩
        rw [← hxd] at hx
        rw [← hyd] at hy
        rw [← hxd, ← hyd] at hr
        have hll := wholeTo_len _ _ _ _ hs
        have HLL := Aside0.mk hll
        have HR := Aside0.mk hR
        have HS := Aside0.mk hS
        have HA := Aside0.mk hr
        have HS2 := Aside0.mk hs2
        have HNL := Aside0.mk hnl
        clear HO hs hs2 hs3 hxd hyd hr hR hS hnl hll
        have p2 := eq_true p1
        have q2 := eq_true q1
        have q4 := eq_true q3
        go_wp2_with (first
          | (go_at_call 101; go_loud (refine (best_ask.calls w1.heap.size w1.heap.size v0 v1 s.2.1 s.2.2 (l0.length : Int) ⟨x, y⟩ a1 r _ HS.out HA.out).mono ?_; rintro e w2 ⟨rfl, v0', v1', hS2, hb2, hF2⟩; have HR2 := Aside0.mk (FrT.row HR.out rfl hF2); have HS2' := Aside0.mk hS2; have HB2 := Aside0.mk (HB.out.trans (hb2)); clear hS2 hb2 hF2))
          | ((with_reducible refine gate_builtin (b := .append) (xs := #[.tmp 31, .tmp 41]) rfl ?_); at_builtin; go_loud (refine Kd.R_append Kd.bool (w0 := w1) w1.heap.size rfl (.tmp 31) (.tmp 41) 41 4 (.bool false) 1 rfl Try.underlying41 info4 rfl (by decide) (by omega) u8 s.1 r.1 [.bool r.1] (fun _ => True) (fun _ => False) rfl rfl ?aP (fun _ hk => hk.elim) ?aF ?aO ?aB ?aS ?aL ?_; (case aP => exact rfl); (case aB => exact HB2.out); (case aF => exact fun _ _ => trivial); (case aO => exact HR2.out); (case aS => exact HB2.out.size); (case aL => have := HLL.out; omega); intro v3 w3 ho hb hg hat; have HO3 := Aside0.mk ho; have HB3 := Aside0.mk hb; have HS3 := Aside0.mk (RunS.other HS2'.out HR2.out hg); clear ho hb hg hat)))
        go_roundw
        case rel => exact ⟨i + 1, by go_num, by omega, ⟨_, _, _, HS2.out, HO3.out, HS3.out⟩, HB3⟩
        case measure => simp [intOf]; omega
      · have hkn : i = l0.length := by omega
        subst hkn
        obtain ⟨s, v0, v1, hs, hR, hS⟩ := HO.out
        rw [HSS.out] at hs
        obtain rfl := Option.some.inj hs
        have hc1 := hS.c1
        obtain ⟨A1, c1, rfl⟩ := Kd.R_slice hS.n
        have HR := Aside0.mk hR
        have HS := Aside0.mk hS
        clear HO hs hR hS
        go_wp2
        repeat (go_quiet (fail); try go_wp2)
        go_ret2
        exact ⟨_, _, rfl, Kd.R_lower (Kd.R_drewN HR.out _) HB1.out.size, Kd.R_lower (Kd.R_drewN HS.out.n _) HB1.out.size, HB1.out.trans ((pw_below_drewN HB.out _).mono HB1.out.size)⟩
  · rw [if_neg hw] at h
    exact absurd h (by simp)

/-! ### best_Gone: function 29 -/
def best_Gone.f (l0 : List Int) (a1 : Int) : Option (List Int) := (best_whole.f l0 a1).bind fun bt103 => (some bt103.2)
set_option maxHeartbeats 8000000 in
set_option maxRecDepth 100000 in
theorem best_Gone.calls (A0 : Option Addr) (c0 : Nat) (l0 : List Int) (a1 : Int) (r : List Int) (w : World) (hr0 : Kd.C (Kd.int .u64) w A0 l0.length l0) (hc0 : l0.length ≤ c0) (h : best_Gone.f l0 a1 = some r) :
    Calls Try.prog 29 #[.slice A0 l0.length c0, .int .i64 a1] w fun e w' => ∃ v0_ : Value, e = .returned (v0_) ∧ Kd.R (Kd.int .u64) 60 w' w.heap.size (fun _ => True) v0_ r ∧ Below w.heap.size w w' := by
  have HR0 := Aside0.mk hr0
  have HC0 := Aside0.mk hc0
  clear hr0 hc0
  have HB := Aside0.mk (Below.refl w.heap.size w)
  have H : ((best_whole.f l0 a1).bind fun bt103 => (some bt103.2)) = some r := h
  clear h
  replace H := Option.bind_eq_some_iff.mp H
  obtain ⟨⟨t103, t104⟩, A30, H⟩ := H
  replace H : (some t104) = some r := H
  have A3 := Aside0.mk A30
  clear A30
  obtain rfl := Option.some.inj H
  go_enter Try.func29, Try.ntmps29
  go_wp2_with (first | ((with_reducible refine gate_callee (f := 71) rfl ?_); refine goesL_ (some 10) rfl rfl Try.func71 (by kernel_rfl) rfl #[.slice A0 l0.length c0, .int .i64 a1] rfl (by (try simp only [List.map_toArray, List.map_cons, List.map_nil]); first | done | rfl | (simp only [List.length_drop, List.length_take]; rfl)) ?_; (with_reducible refine (best_whole.calls _ _ l0 a1 t103 t104 _ ?side1 ?side2 A3.out).mono ?_); (case side1 => repeat (first | exact HR0.out | (with_reducible refine Kd.C_alloc ?_ _) | (with_reducible refine Kd.C_drewN ?_ _) | (with_reducible refine Kd.C_drew ?_))); (case side2 => exact HC0.out); rintro e w4 ⟨v105, v107, rfl, ho0, ho1, hb⟩; refine ⟨_, rfl, ?_⟩; have n0_ := Aside0.mk (Kd.R_lower ho0 (below_size (by repeat (first | (with_reducible first | exact HB.out | apply below_alloc | apply pw_below_drewN | apply below_drew1) | exact HB.out | exact Below.refl _ _)))); have n1_ := Aside0.mk (Kd.R_lower ho1 (below_size (by repeat (first | (with_reducible first | exact HB.out | apply below_alloc | apply pw_below_drewN | apply below_drew1) | exact HB.out | exact Below.refl _ _)))); have n2_ := Aside0.mk (below_step (by repeat (first | (with_reducible first | exact HB.out | apply below_alloc | apply pw_below_drewN | apply below_drew1) | exact HB.out | exact Below.refl _ _)) hb); clear HB; have HO106 := n0_; have HO108 := n1_; have HB := n2_; clear n0_ n1_ n2_; (try clear hb); (try clear hb2); (try clear hk); (try clear hi); (try clear ho0); (try clear ho1)))
  go_ret
  exact ⟨_, by first | rfl | (simp [errW_none, errW_some] <;> rfl) | (simp [*, errW_none, errW_some] <;> rfl), by (with_reducible repeat (first | apply Kd.R_alloc | apply Kd.R_drewN | apply Kd.R_drew)); exact HO108.out, by repeat (first | (with_reducible first | exact HB.out | apply below_alloc | apply pw_below_drewN | apply below_drew1) | exact HB.out | exact Below.refl _ _)⟩

/-! ### best_Run: function 28 -/
def best_Run.f (l0 : List Int) (a1 : Int) : Option (List Bool) := (best_whole.f l0 a1).bind fun bt109 => (some bt109.1)
set_option maxHeartbeats 8000000 in
set_option maxRecDepth 100000 in
theorem best_Run.calls (A0 : Option Addr) (c0 : Nat) (l0 : List Int) (a1 : Int) (r : List Bool) (w : World) (hr0 : Kd.C (Kd.int .u64) w A0 l0.length l0) (hc0 : l0.length ≤ c0) (h : best_Run.f l0 a1 = some r) :
    Calls Try.prog 28 #[.slice A0 l0.length c0, .int .i64 a1] w fun e w' => ∃ v0_ : Value, e = .returned (v0_) ∧ Kd.R Kd.bool 4 w' w.heap.size (fun _ => True) v0_ r ∧ Below w.heap.size w w' := by
  have HR0 := Aside0.mk hr0
  have HC0 := Aside0.mk hc0
  clear hr0 hc0
  have HB := Aside0.mk (Below.refl w.heap.size w)
  have H : ((best_whole.f l0 a1).bind fun bt109 => (some bt109.1)) = some r := h
  clear h
  replace H := Option.bind_eq_some_iff.mp H
  obtain ⟨⟨t109, t110⟩, A30, H⟩ := H
  replace H : (some t109) = some r := H
  have A3 := Aside0.mk A30
  clear A30
  obtain rfl := Option.some.inj H
  go_enter Try.func28, Try.ntmps28
  go_wp2_with (first | ((with_reducible refine gate_callee (f := 71) rfl ?_); refine goesL_ (some 10) rfl rfl Try.func71 (by kernel_rfl) rfl #[.slice A0 l0.length c0, .int .i64 a1] rfl (by (try simp only [List.map_toArray, List.map_cons, List.map_nil]); first | done | rfl | (simp only [List.length_drop, List.length_take]; rfl)) ?_; (with_reducible refine (best_whole.calls _ _ l0 a1 t109 t110 _ ?side1 ?side2 A3.out).mono ?_); (case side1 => repeat (first | exact HR0.out | (with_reducible refine Kd.C_alloc ?_ _) | (with_reducible refine Kd.C_drewN ?_ _) | (with_reducible refine Kd.C_drew ?_))); (case side2 => exact HC0.out); rintro e w4 ⟨v111, v113, rfl, ho0, ho1, hb⟩; refine ⟨_, rfl, ?_⟩; have n0_ := Aside0.mk (Kd.R_lower ho0 (below_size (by repeat (first | (with_reducible first | exact HB.out | apply below_alloc | apply pw_below_drewN | apply below_drew1) | exact HB.out | exact Below.refl _ _)))); have n1_ := Aside0.mk (Kd.R_lower ho1 (below_size (by repeat (first | (with_reducible first | exact HB.out | apply below_alloc | apply pw_below_drewN | apply below_drew1) | exact HB.out | exact Below.refl _ _)))); have n2_ := Aside0.mk (below_step (by repeat (first | (with_reducible first | exact HB.out | apply below_alloc | apply pw_below_drewN | apply below_drew1) | exact HB.out | exact Below.refl _ _)) hb); clear HB; have HO112 := n0_; have HO114 := n1_; have HB := n2_; clear n0_ n1_ n2_; (try clear hb); (try clear hb2); (try clear hk); (try clear hi); (try clear ho0); (try clear ho1)))
  go_ret
  exact ⟨_, by first | rfl | (simp [errW_none, errW_some] <;> rfl) | (simp [*, errW_none, errW_some] <;> rfl), by (with_reducible repeat (first | apply Kd.R_alloc | apply Kd.R_drewN | apply Kd.R_drew)); exact HO112.out, by repeat (first | (with_reducible first | exact HB.out | apply below_alloc | apply pw_below_drewN | apply below_drew1) | exact HB.out | exact Below.refl _ _)⟩


/-! ### best_All_1: function 72 -/
-- by hand
/-- The places with what is told of each. -/
def placesOf (l : List Bool) : List (Int × Bool) := (List.range l.length).map fun (i : Nat) => (((i : Nat) : Int), l.getD i false)
theorem placesOf_length (l : List Bool) : (placesOf l).length = l.length := by simp [placesOf]
theorem placesOf_take (l : List Bool) (k : Nat) (h : k < l.length) : (placesOf l).take (k + 1) = (placesOf l).take k ++ [((k : Int), l.getD k false)] := by
  rw [List.take_succ_eq_append_getElem (by rw [placesOf_length]; exact h)]
  simp [placesOf]
attribute [local go_sem] Oper.semAt_some
set_option maxRecDepth 100000 in
set_option maxHeartbeats 2000000 in
theorem all1_in (n l Bs B base : Nat) (A : Option Addr) (c : Nat) (l0 : List Bool) (hn : 1 ≤ n) (hlen : l0.length ≤ 1000000) (J Jx : List (Int × Bool) → World → Prop) (W : World)
    (hJ : AbidesFrom W.heap.size J)
    (hY : ∀ pre x W1, J pre W1 → pre.length < l0.length → YieldAt Fence.wide (n - 1) Try.prog l #[.int .i64 x.1, .bool x.2] W1 fun e W' =>
      (e = .returned (.bool true) ∧ J (pre ++ [x]) W' ∧ KeepsBox B W1 W') ∨ (e = .returned (.bool false) ∧ Jx (pre ++ [x]) W'))
    (hBs : W.cell? ⟨Bs, 0, none⟩ = some (.slice A l0.length c)) (hrow : W.ownsRow base 4 1 (.slice A l0.length c) l0.length (encs Value.bool l0))
    (hap : ∀ i, (.slice A l0.length c : Value).ownBlock = some i → i ≠ B ∧ boxRow W B ≠ some i) (h0 : J [] W) :
    CallsIn Fence.wide n Try.prog 72 #[.func (.yield l) #[] #[], .pointer (some ⟨Bs, 0, none⟩)] W fun e W' => (∃ v, e = .returned v) ∧
      ((∃ ys, ys = placesOf l0 ∧ J ys W') ∨ (∃ pre, (∃ k, pre = (placesOf l0).take k) ∧ Jx pre W')) := by
  have HJ := Aside0.mk hJ
  have HY := Aside0.mk hY
  have HO := Aside0.mk hrow
  have HAP := Aside0.mk hap
  have HJ0 : Aside0 (J ((placesOf l0).take 0) W) := ⟨h0⟩
  have HS0 : Aside0 (W.heap.size ≤ W.heap.size) := ⟨Nat.le_refl _⟩
  obtain ⟨N, hN⟩ : ∃ N, N = l0.length := ⟨_, rfl⟩
  rw [← hN] at HO HAP hBs hlen
  have HN := Aside0.mk hN
  clear hJ hY hrow hap h0 hN
  refine callsIn_of_wp Try.func72 rfl trivial ?_ rfl
  simp only [Try.ntmps72, List.size_toArray, List.length_cons, List.length_nil, Nat.reduceAdd, Nat.reduceSub, Array.replicate_succ, Array.replicate_zero, List.push_toArray, List.append_toArray, List.nil_append, List.cons_append]
  gi_wp2
  gi_loopw [7] (fun v7 wr => ∃ k : Nat, k ≤ N ∧ v7 = .int .i64 k ∧ Aside0 (J ((placesOf l0).take k) wr) ∧ Aside0 (wr.ownsRow base 4 1 (.slice A N c) N (encs Value.bool l0)) ∧ Aside0 (∀ i, (.slice A N c : Value).ownBlock = some i → i ≠ B ∧ boxRow wr B ≠ some i)) (fun v7 _ => N - (intOf v7).toNat)
  case atStart => exact ⟨0, Nat.zero_le _, rfl, HJ0, HO, HAP⟩
  case round =>
    clear HJ0 HO HAP HS0
    obtain ⟨k, hk, rfl, HJS, HO, HAP⟩ := hrel
    by_cases hlt : k < N
    · have p1 : (0 : Int) ≤ (k : Int) := by omega
      have q1 : (k : Int) < (N : Int) := by omega
      obtain ⟨A2, c2, e2, hrd⟩ := own_reads_of (d := false) HO.out
      have hA2 : A2 = A := by injection e2 with h _ _; exact h.symm
      clear e2
      subst hA2
      obtain ⟨ad, e1, hx⟩ := ReadsOf.at_ hrd (k : Int) p1 q1
      subst e1
      have hkl : k < l0.length := by rw [← HN.out]; exact hlt
      obtain ⟨x, hxd⟩ : ∃ x, x = rdOf false l0 (k : Int) := ⟨_, rfl⟩
      rw [← hxd, Int.toNat_natCast] at hx
      have hxd2 : x = l0.getD k false := by rw [hxd]; simp [rdOf]
      have htk := placesOf_take l0 k hkl
      rw [← hxd2] at htk
      have HTK := Aside0.mk htk
      have hlk : ((placesOf l0).take k).length = k := by rw [List.length_take, placesOf_length]; omega
      clear hrd hxd hxd2
      obtain ⟨fn, tmps, assign, body, hy, hR⟩ := HY.out _ ((k : Int), x) wr HJS.out (by rw [hlk]; exact hkl)
      dsimp only at hy
      have p2 := eq_true p1
      have q2 := eq_true q1
      have HR1 := Aside0.mk hR
      clear hR htk hlk hkl
      gi_wp2
      refine HR1.out.mono ?_
      rintro e W3 (⟨rfl, hJ3, hk3⟩ | ⟨rfl, hJx3⟩)
      · have hJ4 : Aside0 (J ((placesOf l0).take (k + 1)) W3) := ⟨by rw [HTK.out]; exact hJ3⟩
        have hO4 : Aside0 (W3.ownsRow base 4 1 (.slice (some ad) N c) N (encs Value.bool l0)) := ⟨own_move HO.out (fun i hi => by
          obtain ⟨cells, hc⟩ := own_typed HO.out i hi
          rw [hc]
          exact hk3.keep i _ hc (.inl rfl) (HAP.out i hi).1 (HAP.out i hi).2)⟩
        have hA4 : Aside0 (∀ i, (.slice (some ad) N c : Value).ownBlock = some i → i ≠ B ∧ boxRow W3 B ≠ some i) := ⟨fun i hi => by
          refine ⟨(HAP.out i hi).1, ?_⟩
          rcases hk3.row with e | ⟨b', e, hb'⟩
          · rw [e]; exact (HAP.out i hi).2
          · rw [e]
            intro he
            injection he with he
            have := own_lt HO.out i hi; omega⟩
        clear hJ3 hk3
        gi_wp2
        go_roundw
        case rel => exact ⟨k + 1, by omega, by simp, hJ4, hO4, hA4⟩
        case measure => simp [intOf]; omega
      · gi_wp2
        refine bodyPost_ret (results_none rfl _ _ _) rfl ?_
        exact ⟨⟨_, rfl⟩, .inr ⟨_, ⟨k + 1, HTK.out.symm⟩, hJx3⟩⟩
    · obtain rfl : k = N := by omega
      gi_wp2
      go_end0
      refine ⟨⟨_, rfl⟩, .inl ⟨_, rfl, ?_⟩⟩
      have := HJS.out
      rwa [List.take_of_length_le (by rw [placesOf_length, ← HN.out]; exact Nat.le_refl _)] at this


/-! ### best_All: function 31 -/
-- by hand
theorem best_whole_len {l0 : List Int} {a1 : Int} {r : List Bool × List Int} (h : best_whole.f l0 a1 = some r) : r.1.length ≤ 4096 := by
  unfold best_whole.f at h
  by_cases hs : a1 < 1 ∨ l0.length > 4096
  · rw [if_pos hs] at h
    obtain rfl := Option.some.inj h
    simp
  · rw [if_neg hs] at h
    split at h
    · obtain ⟨S, hS, rfl⟩ := Option.map_eq_some_iff.1 h
      have := wholeTo_len _ _ _ _ hS
      show S.1.length ≤ 4096
      omega
    · cases h
set_option maxRecDepth 100000 in
set_option maxHeartbeats 800000 in
theorem best_All.calls (A0 : Option Addr) (c0 : Nat) (l0 : List Int) (a1 : Int) (r : List Bool × List Int) (w : World) (hr0 : Kd.C (Kd.int .u64) w A0 l0.length l0) (hc0 : l0.length ≤ c0) (h : best_whole.f l0 a1 = some r) :
    Calls Try.prog 31 #[.slice A0 l0.length c0, .int .i64 a1] w fun e w' => ∃ Bs A c, e = .returned (.func (.func 72) #[] #[.pointer (some ⟨Bs, 0, none⟩)]) ∧ w'.cell? ⟨Bs, 0, none⟩ = some (.slice A r.1.length c) ∧ w'.ownsRow w.heap.size 4 1 (.slice A r.1.length c) r.1.length (encs Value.bool r.1) ∧ Below w.heap.size w w' := by
  have HR0 := Aside0.mk hr0
  have HC0 := Aside0.mk hc0
  have hrun : best_Run.f l0 a1 = some r.1 := by unfold best_Run.f; rw [h]; rfl
  have HRU := Aside0.mk hrun
  clear hr0 hc0 hrun h
  go_enter Try.func31, Try.ntmps31
  go_wp2_with (go_at_call 28; go_loud (refine (best_Run.calls _ _ l0 a1 _ _ HR0.out HC0.out HRU.out).mono ?_; rintro e w1 ⟨v, rfl, hO, hB⟩; obtain ⟨A, c, hv⟩ := Kd.R_slice hO; subst hv; have HO := Aside0.mk hO; have HB := Aside0.mk hB; clear hO hB))
  go_ret
  have ho := Kd.own_of_R HO.out
  refine ⟨w1.heap.size, A, c, rfl, ?_, ho.alloc _, HB.out.alloc HB.out.size _⟩
  rw [blk_cell (blk_new _ _)]
  rfl


/-! ### best_Hits: function 30 -/
-- by hand
def best_Hits.f (l0 : List Int) (a1 : Int) : Option Int := (best_whole.f l0 a1).map fun t => ((t.1.count true : Nat) : Int)
/-- How many hits have come. -/
def hitsIn (l : List (Int × Bool)) : Nat := (l.map Prod.snd).count true
theorem hitsIn_le (l : List (Int × Bool)) : hitsIn l ≤ l.length := by
  unfold hitsIn
  have := List.count_le_length (a := true) (l := l.map Prod.snd)
  rwa [List.length_map] at this
theorem hitsIn_snoc (l : List (Int × Bool)) (x : Int × Bool) : hitsIn (l ++ [x]) = hitsIn l + if x.2 = true then 1 else 0 := by
  unfold hitsIn
  rw [List.map_append, List.count_append]
  congr 1
  obtain ⟨a, b⟩ := x
  cases b <;> rfl
theorem places_snd (l : List Bool) : (placesOf l).map Prod.snd = l := by
  apply List.ext_getElem
  · rw [List.length_map, placesOf_length]
  · intro i h1 h2
    simp [placesOf, List.getD_eq_getElem?_getD, List.getElem?_eq_getElem h2]
attribute [local go_sem] Oper.semAt_some
set_option maxRecDepth 100000 in
set_option maxHeartbeats 2000000 in
theorem best_Hits.calls (A0 : Option Addr) (c0 : Nat) (l0 : List Int) (a1 : Int) (r : Int) (w : World) (hr0 : Kd.C (Kd.int .u64) w A0 l0.length l0) (hc0 : l0.length ≤ c0) (h : best_Hits.f l0 a1 = some r) :
    Calls Try.prog 30 #[.slice A0 l0.length c0, .int .i64 a1] w fun e w' => e = .returned (.int .i64 r) ∧ Below w.heap.size w w' := by
  unfold best_Hits.f at h
  obtain ⟨R, hR, rfl⟩ := Option.map_eq_some_iff.1 h
  have hlen := best_whole_len hR
  have HR0 := Aside0.mk hr0
  have HC0 := Aside0.mk hc0
  have HF := Aside0.mk hR
  obtain ⟨hits, hh⟩ : ∃ hits, hits = R.1 := ⟨_, rfl⟩
  have HH := Aside0.mk hh
  rw [← hh] at hlen ⊢
  clear hr0 hc0 hR h hh
  have hro : Fence.wide.round = none := rfl
  have bO := Boxed.new w 3 (.int .i64 0)
  have BO := Aside0.mk bO
  clear bO
  refine (callsIn_wide (n := 5)).1 ?_
  refine callsIn_of_wp_marks Try.func30 rfl trivial ?_ rfl
  simp only [Try.ntmps30, List.size_toArray, List.length_cons, List.length_nil, Nat.reduceAdd, Nat.reduceSub, Array.replicate_succ, Array.replicate_zero, List.push_toArray, List.append_toArray, List.nil_append, List.cons_append]
  gi_wp2_with fail
  refine ⟨trivial, ?_⟩
  refine (callsIn_wide.2 (best_All.calls A0 c0 l0 a1 R _ (Kd.C_below HR0.out (below_alloc (Below.refl _ _) _)) HC0.out HF.out)).mono ?_
  rintro e w1 ⟨Bs, A, c, rfl, hbs, hr, hB⟩
  rw [← HH.out] at hbs hr
  have HBS := Aside0.mk hbs
  have HR := Aside0.mk hr
  have HB := Aside0.mk hB
  clear hbs hr hB
  gi_wp2
  have hbw : Below w.heap.size w w1 := (below_alloc (Below.refl w.heap.size w) (.cells #[.int .i64 0] 3)).trans (HB.out.mono (by simp))
  have HBW := Aside0.mk hbw
  have bO : Boxed w1 w.heap.size 3 (.int .i64 0) := (HB.out.block w.heap.size (by simp)).trans BO.out
  have hBlt : w.heap.size < w1.heap.size := bO.lt
  have hseq : SeqStopsK Fence.wide (5 - 1) Try.prog 72 #[.pointer (some ⟨Bs, 0, none⟩)] (fun x : Int × Bool => #[Value.int .i64 x.1, Value.bool x.2]) (KeepsBox w.heap.size) (fun ys => ys = placesOf hits) (fun pre => ∃ k, pre = (placesOf hits).take k) hits.length w1 := fun l J Jx W hW hJ hJx hY h0 => by
    have hcell : W.cell? ⟨Bs, 0, none⟩ = some (.slice A hits.length c) := pw_cell_below hW HBS.out
    have hro' : W.ownsRow (w.alloc (.cells #[.int .i64 0] 3)).heap.size 4 1 (.slice A hits.length c) hits.length (encs Value.bool hits) := own_move HR.out (fun i hi => hW.block i (own_lt HR.out i hi))
    have hbx : boxRow W w.heap.size = none := by
      unfold boxRow
      rw [hW.cell (p := ⟨w.heap.size, 0, none⟩) hBlt, bO.cell]
      rfl
    exact all1_in 4 l Bs w.heap.size _ A c hits (by decide) (by omega) J Jx W hJ hY hcell hro' (fun i hi => by
      refine ⟨?_, by rw [hbx]; simp⟩
      have := own_base hro' i hi
      simp at this
      omega) h0
  refine wpIn_rangeFunc_ownG hro (by decide) (gf := 72) (lb := #[.pointer (some ⟨Bs, 0, none⟩)]) rfl trivial (enters_of Try.func72 (by kernel_rfl) rfl)
    hseq (fun h k => KeepsBox.trans h k) (KeepsBox.putObj hBlt) (Below.refl _ _) (fun _ => rfl)
    (fun pre W => Boxed W w.heap.size 3 (.int .i64 (hitsIn pre : Nat)) ∧ Below w.heap.size w W)
    (fun _ _ _ => False)
    (OwnFrom.and (Own.from (boxed_own w.heap.size 3 (fun pre : List (Int × Bool) => .int .i64 (hitsIn pre : Nat))) _) (ownFrom_below (Nat.le_refl _) (by omega)))
    (fun _ _ _ _ _ hs _ _ => hs)
    ⟨bO, hbw⟩
    (fun x => { tmps := #[.slice A0 l0.length c0, .int .i64 a1, undef, undef, .int .i64 0, .pointer (some ⟨w.heap.size, 0, none⟩), undef, .bool x.2, .slice A0 l0.length c0, .int .i64 a1, .func (.func 72) #[] #[.pointer (some ⟨Bs, 0, none⟩)], .int .i64 x.1, .bool x.2, undef, undef, undef, undef], defers := [] }) ?assign ?body ?done ?stop
  case assign =>
    intro l x W K hK
    gi_wp2
    exact hK
  case body =>
    rintro l pre x W ⟨hv, hB⟩ hlt
    have hc := hv.cell
    have hf := hv.frozen
    have hle := hitsIn_le pre
    have hsn := hitsIn_snoc pre x
    have hws : wrap64 ((hitsIn pre : Nat) + 1 : Int) = (hitsIn pre : Nat) + 1 := by unfold wrap64; omega
    obtain ⟨xi, xb⟩ := x
    have HV := Aside0.mk hv
    have HBB := Aside0.mk hB
    have HSN := Aside0.mk hsn
    clear hlt hle hsn hv hB
    cases xb with
    | true =>
      gi_wp2
      have hv2 := HV.out.set (.int .i64 ((hitsIn pre : Nat) + 1))
      have hs2 : hitsIn (pre ++ [(xi, true)]) = hitsIn pre + 1 := HSN.out
      exact ⟨(keepsOthers_set HV.out _).from _, KeepsBox.setInt HV.out _, by rw [hs2]; exact hv2, HBB.out.setCell (Nat.le_refl _) _⟩
    | false =>
      gi_wp2
      have hs2 : hitsIn (pre ++ [(xi, false)]) = hitsIn pre := HSN.out
      exact ⟨KeepsFrom.refl _ _, KeepsBox.refl _ _, by rw [hs2]; exact HV.out, HBB.out⟩
  case done =>
    rintro D ys W hD rfl ⟨hv, hB⟩ hK
    have hc := hv.cell
    gi_wp2
    refine ⟨by simp, .inl ⟨_, _, rfl, run_takeDeferred hK, ?_⟩⟩
    refine ⟨_, results_tmp rfl _ _ _, ?_, hB.trans (belowK_b (w := w) (Nat.le_refl _) W D _ _ (by omega) hK rfl rfl)⟩
    show Ending.returned (Value.int .i64 (hitsIn (placesOf hits) : Nat)) = _
    unfold hitsIn
    rw [places_snd]
  case stop =>
    rintro D c pre W _ _ h _
    exact h.elim

/-! ### hutchlaw27_alive: function 27 -/
def hutchlaw27_alive.f (k : Nat)  : Option (Bool) := (some (([1, 2, 3, 1, 2] : List Int) : List Int)).bind fun y115 => ((best_Gone.f y115 2).bind fun t118 => ((hutchref06_Same.f k t118 (([2, 1] : List Int))).bind fun t124 => (if t124 = true then ((best_Hits.f y115 2).bind fun t125 => (some (t125 == 1))) else (some false))))
theorem hutchlaw27_alive.mono : ∀ k, LeO (hutchlaw27_alive.f k ) (hutchlaw27_alive.f (k + 1) ) := by
  intro  k
  unfold hutchlaw27_alive.f
  repeat' first
      | (with_reducible exact hutchref06_Same.mono _ _ _)
      | (with_reducible exact LeO.refl _)
      | (with_reducible exact LeO.none _)
      | (with_reducible refine LeO.ite ?_ ?_)
      | (with_reducible refine LeO.bind ?_ (fun _ => ?_))
      | exact hutchref06_Same.mono _ _ _
      | exact LeO.none _
      | refine LeO.ite ?_ ?_
      | refine LeO.bind ?_ (fun _ => ?_)
set_option maxHeartbeats 8000000 in
set_option maxRecDepth 100000 in
theorem hutchlaw27_alive.calls (k : Nat)  (r : Bool) (w : World) (h : hutchlaw27_alive.f k  = some r) :
    Calls Try.prog 27 #[] w fun e w' => e = .returned (.bool r) ∧ Below w.heap.size w w' := by
  have HB := Aside0.mk (Below.refl w.heap.size w)
  have H : ((some (([1, 2, 3, 1, 2] : List Int) : List Int)).bind fun y115 => ((best_Gone.f y115 2).bind fun t118 => ((hutchref06_Same.f k t118 (([2, 1] : List Int))).bind fun t124 => (if t124 = true then ((best_Hits.f y115 2).bind fun t125 => (some (t125 == 1))) else (some false))))) = some r := h
  clear h
  obtain ⟨y115, hy115⟩ : ∃ y_ : List Int, y_ = (([1, 2, 3, 1, 2] : List Int)) := ⟨_, rfl⟩
  replace H : ((best_Gone.f y115 2).bind fun t118 => ((hutchref06_Same.f k t118 (([2, 1] : List Int))).bind fun t124 => (if t124 = true then ((best_Hits.f y115 2).bind fun t125 => (some (t125 == 1))) else (some false)))) = some r := by first | (rw [hy115]; with_reducible exact H) | (have H2_ := (Option.bind_some _ _).symm.trans H; rw [hy115]; with_reducible exact H2_) | (have H2_ := (Option.bind_some _ _).symm.trans H; with_reducible exact H2_) | with_reducible exact H | (rw [hy115]; exact H) | exact H
  have Ny115 := Aside0.mk hy115
  clear hy115
  replace H := Option.bind_eq_some_iff.mp H
  obtain ⟨t118, A10, H⟩ := H
  replace H : ((hutchref06_Same.f k t118 (([2, 1] : List Int))).bind fun t124 => (if t124 = true then ((best_Hits.f y115 2).bind fun t125 => (some (t125 == 1))) else (some false))) = some r := H
  have A1 := Aside0.mk A10
  clear A10
  obtain ⟨y121, hy121⟩ : ∃ y_ : List Int, y_ = (([2, 1] : List Int)) := ⟨_, rfl⟩
  replace H : ((hutchref06_Same.f k t118 y121).bind fun t124 => (if t124 = true then ((best_Hits.f y115 2).bind fun t125 => (some (t125 == 1))) else (some false))) = some r := by first | (rw [hy121]; with_reducible exact H) | (have H2_ := (Option.bind_some _ _).symm.trans H; rw [hy121]; with_reducible exact H2_) | (have H2_ := (Option.bind_some _ _).symm.trans H; with_reducible exact H2_) | with_reducible exact H | (rw [hy121]; exact H) | exact H
  have Ny121 := Aside0.mk hy121
  clear hy121
  replace H := Option.bind_eq_some_iff.mp H
  obtain ⟨t124, A20, H⟩ := H
  replace H : (if t124 = true then ((best_Hits.f y115 2).bind fun t125 => (some (t125 == 1))) else (some false)) = some r := H
  have A2 := Aside0.mk A20
  clear A20
  by_cases c3 : t124 = true
  · subst c3
    have H1 : ((best_Hits.f y115 2).bind fun t125 => (some (t125 == 1))) = some r := by rw [if_pos rfl] at H; exact H
    clear H
    have H := H1
    clear H1
    replace H := Option.bind_eq_some_iff.mp H
    obtain ⟨t125, A40, H⟩ := H
    replace H : (some (t125 == 1)) = some r := H
    have A4 := Aside0.mk A40
    clear A40
    obtain rfl := Option.some.inj H
    go_enter Try.func27, Try.ntmps27
    go_wp2_with (first | ((with_reducible refine gate_dst (N := 2) rfl ?_); refine Kd.R_lit (Kd.int .u64) _ 60 ?hg (N := 2) ?hd (xs := ([1, 2, 3, 1, 2] : List Int)) (inner := [.int .u64 1, .int .u64 2, .int .u64 3, .int .u64 1, .int .u64 2]) (ok := fun _ => True) (okp := fun _ => True) ?hr ?hp (fun _ hk => hk) trivial (Below.refl _ _) (Nat.le_refl _) (by simp) ?_; (case hd => rfl); (case hg => rfl); (case hr => first | (go_simp; done) | (go_simp; rfl)); (case hp => exact (Reps.one (show Kd.M (Kd.int .u64) _ _ _ 1 [.int .u64 1] from rfl) (Reps.one (show Kd.M (Kd.int .u64) _ _ _ 2 [.int .u64 2] from rfl) (Reps.one (show Kd.M (Kd.int .u64) _ _ _ 3 [.int .u64 3] from rfl) (Reps.one (show Kd.M (Kd.int .u64) _ _ _ 1 [.int .u64 1] from rfl) (Reps.one (show Kd.M (Kd.int .u64) _ _ _ 2 [.int .u64 2] from rfl) (Reps.none _ _))))))); intro v116 w5 ho6 hb hg_ hnew_; clear hg_ hnew_; (first | rw [← Ny115.out] at ho6 | (simp only [Int.reduceToNat] at ho6; rw [← Ny115.out] at ho6)); have n0_ := Aside0.mk (Kd.R_lower ho6 (below_size (by repeat (first | (with_reducible first | exact HB.out | apply below_alloc | apply pw_below_drewN | apply below_drew1) | exact HB.out | exact Below.refl _ _)))); have n1_ := Aside0.mk (below_step (by repeat (first | (with_reducible first | exact HB.out | apply below_alloc | apply pw_below_drewN | apply below_drew1) | exact HB.out | exact Below.refl _ _)) hb); clear HB; have HO117 := n0_; have HB := n1_; clear n0_ n1_; clear hb ho6; obtain ⟨Ao7, co7, eo7⟩ := Kd.R_slice HO117.out; subst eo7) | ((with_reducible refine gate_callee (f := 29) rfl ?_); refine goesL_ (some 4) rfl rfl Try.func29 (by kernel_rfl) rfl #[.slice Ao7 y115.length co7, .int .i64 2] rfl (by (try simp only [List.map_toArray, List.map_cons, List.map_nil]); first | done | rfl | (simp only [List.length_drop, List.length_take]; rfl)) ?_; (with_reducible refine (best_Gone.calls _ _ y115 2 t118 _ ?side1 ?side2 A1.out).mono ?_); (case side1 => repeat (first | exact (Kd.R_reads' HO117.out).2.2 | (with_reducible refine Kd.C_alloc ?_ _) | (with_reducible refine Kd.C_drewN ?_ _) | (with_reducible refine Kd.C_drew ?_))); (case side2 => exact (Kd.R_reads' HO117.out).2.1); rintro e w8 ⟨v119, rfl, ho0, hb⟩; refine ⟨_, rfl, ?_⟩; have n0_ := Aside0.mk (Kd.R_elder' (by (with_reducible repeat (first | apply Kd.R_alloc | apply Kd.R_drewN | apply Kd.R_drew)); exact HO117.out) (Kd.R_base ho0) hb); have n1_ := Aside0.mk (Kd.R_lower (Kd.R_new' ho0 (Kd.R_lt (by (with_reducible repeat (first | apply Kd.R_alloc | apply Kd.R_drewN | apply Kd.R_drew)); exact HO117.out))) (below_size (by repeat (first | (with_reducible first | exact HB.out | apply below_alloc | apply pw_below_drewN | apply below_drew1) | exact HB.out | exact Below.refl _ _)))); have n2_ := Aside0.mk (below_step (by repeat (first | (with_reducible first | exact HB.out | apply below_alloc | apply pw_below_drewN | apply below_drew1) | exact HB.out | exact Below.refl _ _)) hb); clear HO117; clear HB; have HO117 := n0_; have HO120 := n1_; have HB := n2_; clear n0_ n1_ n2_; (try clear hb); (try clear hb2); (try clear hk); (try clear hi); (try clear ho0)) | ((with_reducible refine gate_dst (N := 5) rfl ?_); refine Kd.R_lit (Kd.int .u64) _ 60 ?hg (N := 5) ?hd (xs := ([2, 1] : List Int)) (inner := [.int .u64 2, .int .u64 1]) (ok := fun _ => True) (okp := fun _ => True) ?hr ?hp (fun _ hk => hk) trivial (Below.refl _ _) (Nat.le_refl _) (by simp) ?_; (case hd => rfl); (case hg => rfl); (case hr => first | (go_simp; done) | (go_simp; rfl)); (case hp => exact (Reps.one (show Kd.M (Kd.int .u64) _ _ _ 2 [.int .u64 2] from rfl) (Reps.one (show Kd.M (Kd.int .u64) _ _ _ 1 [.int .u64 1] from rfl) (Reps.none _ _)))); intro v122 w9 ho10 hb hg_ hnew_; clear hg_ hnew_; (first | rw [← Ny121.out] at ho10 | (simp only [Int.reduceToNat] at ho10; rw [← Ny121.out] at ho10)); have n0_ := Aside0.mk (Kd.R_elder' (by (with_reducible repeat (first | apply Kd.R_alloc | apply Kd.R_drewN | apply Kd.R_drew)); exact HO117.out) (Kd.R_base ho10) hb); have n1_ := Aside0.mk (Kd.R_elder' (by (with_reducible repeat (first | apply Kd.R_alloc | apply Kd.R_drewN | apply Kd.R_drew)); exact HO120.out) (Kd.R_base ho10) hb); have n2_ := Aside0.mk (Kd.R_lower (Kd.R_new' (Kd.R_new' ho10 (Kd.R_lt (by (with_reducible repeat (first | apply Kd.R_alloc | apply Kd.R_drewN | apply Kd.R_drew)); exact HO117.out))) (Kd.R_lt (by (with_reducible repeat (first | apply Kd.R_alloc | apply Kd.R_drewN | apply Kd.R_drew)); exact HO120.out))) (below_size (by repeat (first | (with_reducible first | exact HB.out | apply below_alloc | apply pw_below_drewN | apply below_drew1) | exact HB.out | exact Below.refl _ _)))); have n3_ := Aside0.mk (below_step (by repeat (first | (with_reducible first | exact HB.out | apply below_alloc | apply pw_below_drewN | apply below_drew1) | exact HB.out | exact Below.refl _ _)) hb); clear HO117; clear HO120; clear HB; have HO117 := n0_; have HO120 := n1_; have HO123 := n2_; have HB := n3_; clear n0_ n1_ n2_ n3_; clear hb ho10; obtain ⟨Ao11, co11, eo11⟩ := Kd.R_slice HO120.out; subst eo11; obtain ⟨Ao12, co12, eo12⟩ := Kd.R_slice HO123.out; subst eo12) | ((with_reducible refine gate_callee (f := 25) rfl ?_); refine goesL_ (some 6) rfl rfl Try.func25 (by kernel_rfl) rfl #[.slice Ao11 t118.length co11, .slice Ao12 y121.length co12] rfl (by (try simp only [List.map_toArray, List.map_cons, List.map_nil]); first | done | rfl | (simp only [List.length_drop, List.length_take]; rfl)) ?_; (with_reducible refine (hutchref06_Same.calls k _ _ t118 _ _ y121 true _ ?side1 ?side2 ?side3 ?side4 A2.out).mono ?_); (case side1 => repeat (first | exact (Kd.R_reads' HO120.out).2.2 | (with_reducible refine Kd.C_alloc ?_ _) | (with_reducible refine Kd.C_drewN ?_ _) | (with_reducible refine Kd.C_drew ?_))); (case side2 => exact (Kd.R_reads' HO120.out).2.1); (case side3 => repeat (first | exact (Kd.R_reads' HO123.out).2.2 | (with_reducible refine Kd.C_alloc ?_ _) | (with_reducible refine Kd.C_drewN ?_ _) | (with_reducible refine Kd.C_drew ?_))); (case side4 => exact (Kd.R_reads' HO123.out).2.1); rintro e w' ⟨rfl, ⟨nd, rfl⟩⟩; refine ⟨_, rfl, ?_⟩) | (go_at_call 30; (with_reducible refine (best_Hits.calls _ _ y115 2 t125 _ ?side1 ?side2 A4.out).mono ?_); (case side1 => repeat (first | exact (Kd.R_reads' HO117.out).2.2 | (with_reducible refine Kd.C_alloc ?_ _) | (with_reducible refine Kd.C_drewN ?_ _) | (with_reducible refine Kd.C_drew ?_))); (case side2 => exact (Kd.R_reads' HO117.out).2.1); rintro e w13 ⟨rfl, hb⟩; have n0_ := Aside0.mk (Kd.R_below (by (with_reducible repeat (first | apply Kd.R_alloc | apply Kd.R_drewN | apply Kd.R_drew)); exact HO117.out) hb); have n1_ := Aside0.mk (Kd.R_below (by (with_reducible repeat (first | apply Kd.R_alloc | apply Kd.R_drewN | apply Kd.R_drew)); exact HO120.out) hb); have n2_ := Aside0.mk (Kd.R_below (by (with_reducible repeat (first | apply Kd.R_alloc | apply Kd.R_drewN | apply Kd.R_drew)); exact HO123.out) hb); have n3_ := Aside0.mk (below_step (by repeat (first | (with_reducible first | exact HB.out | apply below_alloc | apply pw_below_drewN | apply below_drew1) | exact HB.out | exact Below.refl _ _)) hb); clear HO117; clear HO120; clear HO123; clear HB; have HO117 := n0_; have HO120 := n1_; have HO123 := n2_; have HB := n3_; clear n0_ n1_ n2_ n3_; (try clear hb); (try clear hb2); (try clear hk); (try clear hi)))
    go_ret
    exact ⟨by first | rfl | (simp [errW_none, errW_some] <;> rfl) | (simp [*, errW_none, errW_some] <;> rfl), by repeat (first | (with_reducible first | exact HB.out | apply below_alloc | apply pw_below_drewN | apply below_drew1) | exact HB.out | exact Below.refl _ _)⟩
  · replace c3 := Bool.eq_false_iff.mpr c3
    subst c3
    have H1 : (some false) = some r := by rw [if_neg (show ¬ (false = true) by decide)] at H; exact H
    clear H
    have H := H1
    clear H1
    obtain rfl := Option.some.inj H
    go_enter Try.func27, Try.ntmps27
    go_wp2_with (first | ((with_reducible refine gate_dst (N := 2) rfl ?_); refine Kd.R_lit (Kd.int .u64) _ 60 ?hg (N := 2) ?hd (xs := ([1, 2, 3, 1, 2] : List Int)) (inner := [.int .u64 1, .int .u64 2, .int .u64 3, .int .u64 1, .int .u64 2]) (ok := fun _ => True) (okp := fun _ => True) ?hr ?hp (fun _ hk => hk) trivial (Below.refl _ _) (Nat.le_refl _) (by simp) ?_; (case hd => rfl); (case hg => rfl); (case hr => first | (go_simp; done) | (go_simp; rfl)); (case hp => exact (Reps.one (show Kd.M (Kd.int .u64) _ _ _ 1 [.int .u64 1] from rfl) (Reps.one (show Kd.M (Kd.int .u64) _ _ _ 2 [.int .u64 2] from rfl) (Reps.one (show Kd.M (Kd.int .u64) _ _ _ 3 [.int .u64 3] from rfl) (Reps.one (show Kd.M (Kd.int .u64) _ _ _ 1 [.int .u64 1] from rfl) (Reps.one (show Kd.M (Kd.int .u64) _ _ _ 2 [.int .u64 2] from rfl) (Reps.none _ _))))))); intro v116 w14 ho15 hb hg_ hnew_; clear hg_ hnew_; (first | rw [← Ny115.out] at ho15 | (simp only [Int.reduceToNat] at ho15; rw [← Ny115.out] at ho15)); have n0_ := Aside0.mk (Kd.R_lower ho15 (below_size (by repeat (first | (with_reducible first | exact HB.out | apply below_alloc | apply pw_below_drewN | apply below_drew1) | exact HB.out | exact Below.refl _ _)))); have n1_ := Aside0.mk (below_step (by repeat (first | (with_reducible first | exact HB.out | apply below_alloc | apply pw_below_drewN | apply below_drew1) | exact HB.out | exact Below.refl _ _)) hb); clear HB; have HO117 := n0_; have HB := n1_; clear n0_ n1_; clear hb ho15; obtain ⟨Ao16, co16, eo16⟩ := Kd.R_slice HO117.out; subst eo16) | ((with_reducible refine gate_callee (f := 29) rfl ?_); refine goesL_ (some 4) rfl rfl Try.func29 (by kernel_rfl) rfl #[.slice Ao16 y115.length co16, .int .i64 2] rfl (by (try simp only [List.map_toArray, List.map_cons, List.map_nil]); first | done | rfl | (simp only [List.length_drop, List.length_take]; rfl)) ?_; (with_reducible refine (best_Gone.calls _ _ y115 2 t118 _ ?side1 ?side2 A1.out).mono ?_); (case side1 => repeat (first | exact (Kd.R_reads' HO117.out).2.2 | (with_reducible refine Kd.C_alloc ?_ _) | (with_reducible refine Kd.C_drewN ?_ _) | (with_reducible refine Kd.C_drew ?_))); (case side2 => exact (Kd.R_reads' HO117.out).2.1); rintro e w17 ⟨v119, rfl, ho0, hb⟩; refine ⟨_, rfl, ?_⟩; have n0_ := Aside0.mk (Kd.R_elder' (by (with_reducible repeat (first | apply Kd.R_alloc | apply Kd.R_drewN | apply Kd.R_drew)); exact HO117.out) (Kd.R_base ho0) hb); have n1_ := Aside0.mk (Kd.R_lower (Kd.R_new' ho0 (Kd.R_lt (by (with_reducible repeat (first | apply Kd.R_alloc | apply Kd.R_drewN | apply Kd.R_drew)); exact HO117.out))) (below_size (by repeat (first | (with_reducible first | exact HB.out | apply below_alloc | apply pw_below_drewN | apply below_drew1) | exact HB.out | exact Below.refl _ _)))); have n2_ := Aside0.mk (below_step (by repeat (first | (with_reducible first | exact HB.out | apply below_alloc | apply pw_below_drewN | apply below_drew1) | exact HB.out | exact Below.refl _ _)) hb); clear HO117; clear HB; have HO117 := n0_; have HO120 := n1_; have HB := n2_; clear n0_ n1_ n2_; (try clear hb); (try clear hb2); (try clear hk); (try clear hi); (try clear ho0)) | ((with_reducible refine gate_dst (N := 5) rfl ?_); refine Kd.R_lit (Kd.int .u64) _ 60 ?hg (N := 5) ?hd (xs := ([2, 1] : List Int)) (inner := [.int .u64 2, .int .u64 1]) (ok := fun _ => True) (okp := fun _ => True) ?hr ?hp (fun _ hk => hk) trivial (Below.refl _ _) (Nat.le_refl _) (by simp) ?_; (case hd => rfl); (case hg => rfl); (case hr => first | (go_simp; done) | (go_simp; rfl)); (case hp => exact (Reps.one (show Kd.M (Kd.int .u64) _ _ _ 2 [.int .u64 2] from rfl) (Reps.one (show Kd.M (Kd.int .u64) _ _ _ 1 [.int .u64 1] from rfl) (Reps.none _ _)))); intro v122 w18 ho19 hb hg_ hnew_; clear hg_ hnew_; (first | rw [← Ny121.out] at ho19 | (simp only [Int.reduceToNat] at ho19; rw [← Ny121.out] at ho19)); have n0_ := Aside0.mk (Kd.R_elder' (by (with_reducible repeat (first | apply Kd.R_alloc | apply Kd.R_drewN | apply Kd.R_drew)); exact HO117.out) (Kd.R_base ho19) hb); have n1_ := Aside0.mk (Kd.R_elder' (by (with_reducible repeat (first | apply Kd.R_alloc | apply Kd.R_drewN | apply Kd.R_drew)); exact HO120.out) (Kd.R_base ho19) hb); have n2_ := Aside0.mk (Kd.R_lower (Kd.R_new' (Kd.R_new' ho19 (Kd.R_lt (by (with_reducible repeat (first | apply Kd.R_alloc | apply Kd.R_drewN | apply Kd.R_drew)); exact HO117.out))) (Kd.R_lt (by (with_reducible repeat (first | apply Kd.R_alloc | apply Kd.R_drewN | apply Kd.R_drew)); exact HO120.out))) (below_size (by repeat (first | (with_reducible first | exact HB.out | apply below_alloc | apply pw_below_drewN | apply below_drew1) | exact HB.out | exact Below.refl _ _)))); have n3_ := Aside0.mk (below_step (by repeat (first | (with_reducible first | exact HB.out | apply below_alloc | apply pw_below_drewN | apply below_drew1) | exact HB.out | exact Below.refl _ _)) hb); clear HO117; clear HO120; clear HB; have HO117 := n0_; have HO120 := n1_; have HO123 := n2_; have HB := n3_; clear n0_ n1_ n2_ n3_; clear hb ho19; obtain ⟨Ao20, co20, eo20⟩ := Kd.R_slice HO120.out; subst eo20; obtain ⟨Ao21, co21, eo21⟩ := Kd.R_slice HO123.out; subst eo21) | ((with_reducible refine gate_callee (f := 25) rfl ?_); refine goesL_ (some 6) rfl rfl Try.func25 (by kernel_rfl) rfl #[.slice Ao20 t118.length co20, .slice Ao21 y121.length co21] rfl (by (try simp only [List.map_toArray, List.map_cons, List.map_nil]); first | done | rfl | (simp only [List.length_drop, List.length_take]; rfl)) ?_; (with_reducible refine (hutchref06_Same.calls k _ _ t118 _ _ y121 false _ ?side1 ?side2 ?side3 ?side4 A2.out).mono ?_); (case side1 => repeat (first | exact (Kd.R_reads' HO120.out).2.2 | (with_reducible refine Kd.C_alloc ?_ _) | (with_reducible refine Kd.C_drewN ?_ _) | (with_reducible refine Kd.C_drew ?_))); (case side2 => exact (Kd.R_reads' HO120.out).2.1); (case side3 => repeat (first | exact (Kd.R_reads' HO123.out).2.2 | (with_reducible refine Kd.C_alloc ?_ _) | (with_reducible refine Kd.C_drewN ?_ _) | (with_reducible refine Kd.C_drew ?_))); (case side4 => exact (Kd.R_reads' HO123.out).2.1); rintro e w' ⟨rfl, ⟨nd, rfl⟩⟩; refine ⟨_, rfl, ?_⟩))
    go_ret
    exact ⟨by first | rfl | (simp [errW_none, errW_some] <;> rfl) | (simp [*, errW_none, errW_some] <;> rfl), by repeat (first | (with_reducible first | exact HB.out | apply below_alloc | apply pw_below_drewN | apply below_drew1) | exact HB.out | exact Below.refl _ _)⟩

end Go.Proofs.Ytdjbpdahdakfjaa.PBest
