/- The plain laws of names: dense traces, and which are alike. -/
import Derived.Test.YtdjbpdahdakfjaaPRenx3
import Derived.Laws.Bits64
namespace Go.Proofs.Ytdjbpdahdakfjaa.RenPure
open Go.RowKit Go.Proofs.Ytdjbpdahdakfjaa.PRen Go.Proofs.YtdjbpdahdakfjaaW.PrintWords Go.Proofs.YtdjbpdahdakfjaaW.PrintLast Go.Proofs.YtdjbpdahdakfjaaW

theorem Ev.from {α : Type} {g : Nat → Option α} {r : α} (n : Nat) (h : ∀ k, g (k + n) = some r) : Ev g r :=
  ⟨n, fun k hk => by obtain ⟨m, rfl⟩ : ∃ m, k = m + n := ⟨k - n, by omega⟩; exact h m⟩
theorem Ev.plain {α : Type} {g : Option α} {r : α} (h : g = some r) : Ev (fun _ => g) r := ⟨0, fun _ _ => h⟩

theorem rd_at (l : List Int) (i : Nat) (h : i < l.length) : rd l (i : Int) = l[i] := by simp [rd, List.getD_eq_getElem?_getD, List.getElem?_eq_getElem h]
theorem w64_succ (i : Nat) (h : i ≤ 1000000) : wrap64 ((i : Int) + 1) = ((i + 1 : Nat) : Int) := by unfold wrap64; omega

/-! Two lists are the same. -/
theorem equal_l0 (a b : List Int) (hl : a.length = b.length) (hb : a.length ≤ 1000000) (d : Nat) : ∀ i : Nat, i ≤ a.length → a.length - i = d →
    Ev (fun k => slices_Equal_uint64_uint64.l0 k a b (a.length : Int) (i : Int)) (decide (a.drop i = b.drop i)) := by
  induction d with
  | zero =>
    intro i hi hd
    refine Ev.from 1 fun k => ?_
    simp only [slices_Equal_uint64_uint64.l0]
    rw [if_neg (by omega), List.drop_of_length_le (by omega), List.drop_of_length_le (by omega)]
    simp
  | succ d ih =>
    intro i hi hd
    have h := ih (i + 1) (by omega) (by omega)
    have ha : i < a.length := by omega
    have hb' : i < b.length := by omega
    rw [List.drop_eq_getElem_cons ha, List.drop_eq_getElem_cons hb']
    by_cases e : a[i] = b[i]
    · have : (a[i] :: a.drop (i + 1) = b[i] :: b.drop (i + 1)) ↔ a.drop (i + 1) = b.drop (i + 1) := by rw [e]; exact ⟨fun h => (List.cons.inj h).2, fun h => by rw [h]⟩
      rw [decide_eq_decide.2 this]
      refine Ev.step (fun k => ?_) h
      simp only [slices_Equal_uint64_uint64.l0]
      rw [if_pos (by omega), if_pos (by omega), if_pos (by omega), if_pos (by omega), rd_at a i ha, rd_at b i hb', if_pos e, w64_succ i (by omega)]
    · rw [decide_eq_false (fun h => e (List.cons.inj h).1)]
      refine Ev.from 1 fun k => ?_
      simp only [slices_Equal_uint64_uint64.l0]
      rw [if_pos (by omega), if_pos (by omega), if_pos (by omega), if_pos (by omega), rd_at a i ha, rd_at b i hb', if_neg e]
theorem equal_ev (a b : List Int) (hb : a.length ≤ 1000000) : Ev (fun k => slices_Equal_uint64_uint64.f k a b) (decide (a = b)) := by
  unfold slices_Equal_uint64_uint64.f
  by_cases hl : a.length = b.length
  · simp only [hl, if_true]
    have := equal_l0 a b hl hb _ 0 (by omega) rfl
    rw [hl] at this
    simpa using this
  · rw [decide_eq_false (fun h => hl (by rw [h]))]
    have : ¬ ((a.length : Int) = (b.length : Int)) := by omega
    simp only [if_neg this]
    exact Ev.now _
theorem same_l0 (a b : List Int) (hl : a.length = b.length) (hb : a.length ≤ 1000000) (d : Nat) : ∀ i : Nat, i ≤ a.length → a.length - i = d →
    Ev (fun k => hutchref06_Same.l0 k a b (i : Int)) (decide (a.drop i = b.drop i)) := by
  induction d with
  | zero =>
    intro i hi hd
    refine Ev.from 1 fun k => ?_
    simp only [hutchref06_Same.l0]
    rw [if_neg (by omega), List.drop_of_length_le (by omega), List.drop_of_length_le (by omega)]
    simp
  | succ d ih =>
    intro i hi hd
    have h := ih (i + 1) (by omega) (by omega)
    have ha : i < a.length := by omega
    have hb' : i < b.length := by omega
    rw [List.drop_eq_getElem_cons ha, List.drop_eq_getElem_cons hb']
    by_cases e : a[i] = b[i]
    · have : (a[i] :: a.drop (i + 1) = b[i] :: b.drop (i + 1)) ↔ a.drop (i + 1) = b.drop (i + 1) := by rw [e]; exact ⟨fun h => (List.cons.inj h).2, fun h => by rw [h]⟩
      rw [decide_eq_decide.2 this]
      refine Ev.step (fun k => ?_) h
      simp only [hutchref06_Same.l0]
      rw [if_pos (by omega), if_pos (by omega), if_pos (by omega), rd_at a i ha, rd_at b i hb', if_pos e, w64_succ i (by omega)]
    · rw [decide_eq_false (fun h => e (List.cons.inj h).1)]
      refine Ev.from 1 fun k => ?_
      simp only [hutchref06_Same.l0]
      rw [if_pos (by omega), if_pos (by omega), if_pos (by omega), rd_at a i ha, rd_at b i hb', if_neg e]
theorem same_ev (a b : List Int) (hb : a.length ≤ 1000000) : Ev (fun k => hutchref06_Same.f k a b) (decide (a = b)) := by
  unfold hutchref06_Same.f
  by_cases hl : a.length = b.length
  · simp only [hl, if_true]
    have := same_l0 a b hl hb _ 0 (by omega) rfl
    simpa using this
  · rw [decide_eq_false (fun h => hl (by rw [h]))]
    have : ¬ ((a.length : Int) = (b.length : Int)) := by omega
    simp only [if_neg this]
    exact Ev.now _

/-! Dense traces. -/
abbrev Wf (l : List Int) : Prop := ∀ x ∈ l, (Lit.int .u64 x).wf = true
theorem wf_bd {x : Int} (h : (Lit.int .u64 x).wf = true) : 0 ≤ x ∧ x < 18446744073709551616 := by
  have e1 : IntKind.u64.min = 0 := by decide
  have e2 : IntKind.u64.max = 18446744073709551615 := by decide
  simp only [Lit.wf, e1, e2, Bool.and_eq_true, decide_eq_true_eq] at h; omega
theorem bd_wf {x : Int} (h0 : 0 ≤ x) (h1 : x < 18446744073709551616) : (Lit.int .u64 x).wf = true := by
  have e1 : IntKind.u64.min = 0 := by decide
  have e2 : IntKind.u64.max = 18446744073709551615 := by decide
  simp only [Lit.wf, e1, e2, Bool.and_eq_true, decide_eq_true_eq]; omega
theorem dense_len (l : List Int) : (denseOf l).length = l.length := by simp [denseOf]
theorem mem_unlike (l : List Int) (x : Int) : x ∈ unlikeOf l ↔ x ∈ l := unlikeOf_mem _ l rfl x
theorem dense_at (l : List Int) (i : Nat) (h : i < l.length) : (denseOf l)[i]'(by rw [dense_len]; exact h) = (((unlikeOf l).idxOf l[i] : Nat) : Int) := by simp [denseOf]
theorem dense_bd (l : List Int) : ∀ x ∈ denseOf l, 0 ≤ x ∧ x < (unlikeOf l).length := by
  intro x hx
  unfold denseOf at hx
  obtain ⟨y, hy, rfl⟩ := List.mem_map.1 hx
  have := List.idxOf_lt_length_of_mem ((mem_unlike l y).2 hy)
  omega
theorem dense_wf (l : List Int) (hl : l.length ≤ 1000000) : Wf (denseOf l) := fun x hx => by
  obtain ⟨h0, h1⟩ := dense_bd l x hx
  have := unlikeOf_len _ l rfl
  exact bd_wf h0 (by omega)
theorem idx_inj {l : List Int} {x y : Int} (hx : x ∈ l) (hy : y ∈ l) (h : l.idxOf x = l.idxOf y) : x = y := by
  have h1 := List.getElem_idxOf (List.idxOf_lt_length_of_mem hx)
  have h2 := List.getElem_idxOf (List.idxOf_lt_length_of_mem hy)
  rw [← h1, ← h2]
  congr 1
theorem dense_ev {l : List Int} (hl : l.length ≤ 1000000) (hw : Wf l) : rename_Dense.f l = some (denseOf l, unlikeOf l) := by
  unfold rename_Dense.f; rw [if_pos ⟨hl, hw⟩]
theorem ralike_ev {a b : List Int} (ha : a.length ≤ 1000000) (hb : b.length ≤ 1000000) (wa : Wf a) (wb : Wf b) : Ev (fun k => rename_Alike.f k a b) (decide (denseOf a = denseOf b)) := by
  unfold rename_Alike.f
  refine Ev.bind (Ev.plain (dense_ev ha wa)) (Ev.bind (Ev.plain (dense_ev hb wb)) (Ev.bind (equal_ev _ _ ?_) (Ev.now _)))
  rw [dense_len]; exact ha

/-! Which are alike. -/
/-- Do places i and j tell the same? -/
def Agree (a b : List Int) (i j : Nat) : Prop := rd a i = rd a j ↔ rd b i = rd b j
theorem alike_l1 (a b : List Int) (hl : a.length = b.length) (hb : a.length ≤ 1000000) (i : Nat) (hi : i < a.length) (d : Nat) : ∀ j : Nat, j ≤ i → i - j = d →
    ((∀ j', j ≤ j' → j' < i → Agree a b i j') → ∀ r, Ev (fun k => hutchref32_Alike.l0 k a b ((i + 1 : Nat) : Int)) r → Ev (fun k => hutchref32_Alike.l1 k a b (i : Int) (j : Int)) r) ∧
    ((∃ j', j ≤ j' ∧ j' < i ∧ ¬ Agree a b i j') → Ev (fun k => hutchref32_Alike.l1 k a b (i : Int) (j : Int)) false) := by
  induction d with
  | zero =>
    intro j hj hd
    refine ⟨fun _ r h => Ev.step (fun k => ?_) h, fun ⟨j', h1, h2, _⟩ => by omega⟩
    simp only [hutchref32_Alike.l1]
    rw [if_neg (by omega), w64_succ i (by omega)]
  | succ d ih =>
    intro j hj hd
    obtain ⟨g1, g2⟩ := ih (j + 1) (by omega) (by omega)
    have step : ∀ k, hutchref32_Alike.l1 (k + 1) a b (i : Int) (j : Int) = if (((rd a i) == (rd a j)) != ((rd b i) == (rd b j))) = true then some false else hutchref32_Alike.l1 k a b (i : Int) ((j + 1 : Nat) : Int) := by
      intro k
      simp only [hutchref32_Alike.l1]
      rw [if_pos (by omega), if_pos (by omega), if_pos (by omega), if_pos (by omega), if_pos (by omega), if_pos (by omega), if_pos (by omega), w64_succ j (by omega)]
    have hag : ((((rd a i) == (rd a j)) != ((rd b i) == (rd b j))) = true) ↔ ¬ Agree a b i j := by
      unfold Agree
      by_cases e1 : rd a i = rd a j
      · have b1 := beq_iff_eq.2 e1
        by_cases e2 : rd b i = rd b j
        · have b2 := beq_iff_eq.2 e2
          rw [b1, b2]; simp [e1, e2]
        · have b2 := beq_eq_false_iff_ne.2 e2
          rw [b1, b2]; simp [e1, e2]
      · have b1 := beq_eq_false_iff_ne.2 e1
        by_cases e2 : rd b i = rd b j
        · have b2 := beq_iff_eq.2 e2
          rw [b1, b2]; simp [e1, e2]
        · have b2 := beq_eq_false_iff_ne.2 e2
          rw [b1, b2]; simp [e1, e2]
    refine ⟨fun h r hr => ?_, fun ⟨j', h1, h2, h3⟩ => ?_⟩
    · refine Ev.step (fun k => ?_) (g1 (fun j' h1 h2 => h j' (by omega) h2) r hr)
      rw [step, if_neg (fun hc => hag.1 hc (h j (Nat.le_refl _) (by omega)))]
    · by_cases hA : Agree a b i j
      · refine Ev.step (fun k => ?_) (g2 ⟨j', ?_, h2, h3⟩)
        · rw [step, if_neg (fun hc => hag.1 hc hA)]
        · by_cases hjj : j' = j
          · rw [hjj] at h3; exact absurd hA h3
          · omega
      · refine Ev.from 1 fun k => ?_
        rw [step, if_pos (hag.2 hA)]
theorem alike_l0 (a b : List Int) (hl : a.length = b.length) (hb : a.length ≤ 1000000) (d : Nat) : ∀ i : Nat, i ≤ a.length → a.length - i = d →
    ((∀ i', i ≤ i' → i' < a.length → ∀ j, j < i' → Agree a b i' j) → Ev (fun k => hutchref32_Alike.l0 k a b (i : Int)) true) ∧
    ((∃ i', i ≤ i' ∧ i' < a.length ∧ ∃ j, j < i' ∧ ¬ Agree a b i' j) → Ev (fun k => hutchref32_Alike.l0 k a b (i : Int)) false) := by
  induction d with
  | zero =>
    intro i hi hd
    refine ⟨fun _ => Ev.from 1 fun k => ?_, fun ⟨i', h1, h2, _⟩ => by omega⟩
    simp only [hutchref32_Alike.l0]
    rw [if_neg (by omega)]
  | succ d ih =>
    intro i hi hd
    obtain ⟨g1, g2⟩ := ih (i + 1) (by omega) (by omega)
    obtain ⟨f1, f2⟩ := alike_l1 a b hl hb i (by omega) i 0 (by omega) (by omega)
    have step : ∀ k, hutchref32_Alike.l0 (k + 1) a b (i : Int) = hutchref32_Alike.l1 k a b (i : Int) ((0 : Nat) : Int) := by
      intro k
      simp only [hutchref32_Alike.l0]
      rw [if_pos (by omega)]
      rfl
    refine ⟨fun h => Ev.step step (f1 (fun j _ hj => h i (Nat.le_refl _) (by omega) j hj) _ (g1 fun i' h1 h2 j hj => h i' (by omega) h2 j hj)), fun ⟨i', h1, h2, j, h3, h4⟩ => Ev.step step ?_⟩
    by_cases hc : ∃ j', 0 ≤ j' ∧ j' < i ∧ ¬ Agree a b i j'
    · exact f2 hc
    · refine f1 (fun j' k1 k2 => Classical.byContradiction fun hn => hc ⟨j', k1, k2, hn⟩) _ (g2 ⟨i', ?_, h2, j, h3, h4⟩)
      by_cases hii : i' = i
      · exact absurd ⟨j, Nat.zero_le _, hii ▸ h3, hii ▸ h4⟩ hc
      · omega
/-- The statement of being alike. -/
def AlikeL (a b : List Int) : Prop := a.length = b.length ∧ ∀ i, i < a.length → ∀ j, j < i → Agree a b i j
theorem alike_ev (a b : List Int) (hb : a.length ≤ 1000000) : (AlikeL a b → Ev (fun k => hutchref32_Alike.f k a b) true) ∧ (¬ AlikeL a b → Ev (fun k => hutchref32_Alike.f k a b) false) := by
  unfold hutchref32_Alike.f
  by_cases hl : a.length = b.length
  · simp only [hl, if_true]
    obtain ⟨g1, g2⟩ := alike_l0 a b hl hb _ 0 (by omega) rfl
    refine ⟨fun h => g1 fun i _ hi j hj => h.2 i hi j hj, fun h => g2 ?_⟩
    refine Classical.byContradiction fun hn => h ⟨hl, fun i hi j hj => Classical.byContradiction fun hA => hn ⟨i, Nat.zero_le _, hi, j, hj, hA⟩⟩
  · have : ¬ ((a.length : Int) = (b.length : Int)) := by omega
    simp only [if_neg this]
    exact ⟨fun h => absurd h.1 hl, fun _ => Ev.now _⟩

theorem pairs_dense (d : Nat) : ∀ p : List (Int × Int), p.length = d → (∀ x ∈ p, ∀ y ∈ p, (x.1 = y.1 ↔ x.2 = y.2)) →
    (unlikeOf (p.map Prod.fst)).length = (unlikeOf (p.map Prod.snd)).length ∧ ∀ x ∈ p, (unlikeOf (p.map Prod.fst)).idxOf x.1 = (unlikeOf (p.map Prod.snd)).idxOf x.2 := by
  induction d with
  | zero =>
    intro p hp _
    obtain rfl := List.eq_nil_of_length_eq_zero hp
    exact ⟨rfl, fun x hx => by simp at hx⟩
  | succ d ih =>
    intro p hp hA
    have hne : p ≠ [] := by intro e; rw [e] at hp; simp at hp
    have e := List.dropLast_concat_getLast hne
    generalize p.getLast hne = z at e
    have hdl : p.dropLast.length = d := by simp; omega
    generalize p.dropLast = q at e hdl
    subst e
    obtain ⟨h1, h2⟩ := ih q hdl (fun x hx y hy => hA x (by simp [hx]) y (by simp [hy]))
    rw [List.map_append, List.map_append, List.map_singleton, List.map_singleton, unlikeOf_snoc, unlikeOf_snoc]
    have hiff : z.1 ∈ unlikeOf (q.map Prod.fst) ↔ z.2 ∈ unlikeOf (q.map Prod.snd) := by
      rw [mem_unlike, mem_unlike, List.mem_map, List.mem_map]
      constructor
      · rintro ⟨x, hx, he⟩; exact ⟨x, hx, (hA x (by simp [hx]) z (by simp)).1 he⟩
      · rintro ⟨x, hx, he⟩; exact ⟨x, hx, (hA x (by simp [hx]) z (by simp)).2 he⟩
    have hm1 : ∀ x ∈ q, x.1 ∈ unlikeOf (q.map Prod.fst) := fun x hx => (mem_unlike _ _).2 (List.mem_map_of_mem hx)
    have hm2 : ∀ x ∈ q, x.2 ∈ unlikeOf (q.map Prod.snd) := fun x hx => (mem_unlike _ _).2 (List.mem_map_of_mem hx)
    by_cases hz : z.1 ∈ unlikeOf (q.map Prod.fst)
    · rw [if_pos hz, if_pos (hiff.1 hz)]
      refine ⟨h1, fun x hx => ?_⟩
      rcases List.mem_append.1 hx with hx | hx
      · exact h2 x hx
      · rw [List.mem_singleton] at hx
        subst hx
        obtain ⟨y, hy, he⟩ := List.mem_map.1 ((mem_unlike _ _).1 hz)
        rw [← he, ← (hA y (by simp [hy]) x (by simp)).1 he]
        exact h2 y hy
    · rw [if_neg hz, if_neg (fun h => hz (hiff.2 h))]
      refine ⟨by simp [h1], fun x hx => ?_⟩
      rcases List.mem_append.1 hx with hx | hx
      · rw [List.idxOf_append, if_pos (hm1 x hx), List.idxOf_append, if_pos (hm2 x hx)]
        exact h2 x hx
      · rw [List.mem_singleton] at hx
        subst hx
        rw [List.idxOf_append, if_neg hz, List.idxOf_append, if_neg (fun h => hz (hiff.2 h)), h1]
        simp
theorem dense_of_alike {a b : List Int} (h : AlikeL a b) : denseOf a = denseOf b := by
  obtain ⟨hl, hA⟩ := h
  have e1 : (a.zip b).map Prod.fst = a := List.map_fst_zip (by omega)
  have e2 : (a.zip b).map Prod.snd = b := List.map_snd_zip (by omega)
  have hp : ∀ x ∈ a.zip b, ∀ y ∈ a.zip b, (x.1 = y.1 ↔ x.2 = y.2) := by
    intro x hx y hy
    obtain ⟨i, hi, rfl⟩ := List.getElem_of_mem hx
    obtain ⟨j, hj, rfl⟩ := List.getElem_of_mem hy
    rw [List.length_zip] at hi hj
    have hi1 : i < a.length := by omega
    have hj1 : j < a.length := by omega
    rw [List.getElem_zip, List.getElem_zip]
    show a[i] = a[j] ↔ b[i] = b[j]
    rcases Nat.lt_trichotomy i j with h | h | h
    · have := hA j hj1 i h
      unfold Agree at this
      rw [rd_at a i hi1, rd_at a j hj1, rd_at b i (by omega), rd_at b j (by omega)] at this
      constructor
      · intro e; exact (this.1 e.symm).symm
      · intro e; exact (this.2 e.symm).symm
    · subst h; simp
    · have := hA i hi1 j h
      unfold Agree at this
      rw [rd_at a i hi1, rd_at a j hj1, rd_at b i (by omega), rd_at b j (by omega)] at this
      exact this
  obtain ⟨h1, h2⟩ := pairs_dense _ (a.zip b) rfl hp
  rw [e1, e2] at h1 h2
  have f1 : denseOf a = (a.zip b).map (fun x => (((unlikeOf a).idxOf x.1 : Nat) : Int)) := by
    unfold denseOf; conv => lhs; rhs; rw [← e1]
    rw [List.map_map]; rfl
  have f2 : denseOf b = (a.zip b).map (fun x => (((unlikeOf b).idxOf x.2 : Nat) : Int)) := by
    unfold denseOf; conv => lhs; rhs; rw [← e2]
    rw [List.map_map]; rfl
  rw [f1, f2]
  exact List.map_congr_left fun x hx => by rw [h2 x hx]
theorem alike_dense (a : List Int) : AlikeL a (denseOf a) := by
  refine ⟨(dense_len a).symm, fun i hi j hj => ?_⟩
  unfold Agree
  rw [rd_at a i hi, rd_at a j (by omega), rd_at _ i (by rw [dense_len]; exact hi), rd_at _ j (by rw [dense_len]; omega), dense_at a i hi, dense_at a j (by omega)]
  constructor
  · intro e; rw [e]
  · intro e
    exact idx_inj ((mem_unlike a _).2 (List.getElem_mem _)) ((mem_unlike a _).2 (List.getElem_mem _)) (by omega)
theorem alike_symm {a b : List Int} (h : AlikeL a b) : AlikeL b a := ⟨h.1.symm, fun i hi j hj => (h.2 i (by rw [h.1]; exact hi) j hj).symm⟩
theorem alike_trans {a b c : List Int} (h : AlikeL a b) (k : AlikeL b c) : AlikeL a c := ⟨h.1.trans k.1, fun i hi j hj => (h.2 i hi j hj).trans (k.2 i (by rw [← h.1]; exact hi) j hj)⟩
theorem dense_iff (a b : List Int) : denseOf a = denseOf b ↔ AlikeL a b :=
  ⟨fun h => alike_trans (alike_dense a) (by rw [h]; exact alike_symm (alike_dense b)), dense_of_alike⟩

/-! Stirring. -/
/-- A number mixed with its own higher bits. -/
def shN (s x : Nat) : Nat := x ^^^ (x >>> s)
theorem shN_lt (s x : Nat) (h : x < 2 ^ 64) : shN s x < 2 ^ 64 := Nat.xor_lt_two_pow h (Nat.lt_of_le_of_lt (Nat.shiftRight_le _ _) h)
theorem bits_xor (a b : Nat) (ha : a < 2 ^ 64) (hb : b < 2 ^ 64) : bits .xor .u64 (a : Int) (b : Int) = ((a ^^^ b : Nat) : Int) := by
  exact bits_xor_u64_nat a b ha hb
theorem shr_nat (a s : Nat) (hs : s ≤ 64) : shr .u64 (a : Int) (s : Int) = ((a >>> s : Nat) : Int) := by
  unfold shr
  rw [show min (s : Int).toNat IntKind.u64.bits = s by simp [IntKind.bits]; omega, Nat.shiftRight_eq_div_pow]
  norm_cast
theorem shift_is (x s : Nat) (hx : x < 2 ^ 64) (hs : s ≤ 64) : mix_shift.f (x : Int) (s : Int) = some ((shN s x : Nat) : Int) := by
  unfold mix_shift.f
  rw [if_pos (by omega), shr_nat x s hs, bits_xor _ _ hx (Nat.lt_of_le_of_lt (Nat.shiftRight_le _ _) hx)]
  rfl
/-- A number stirred. -/
def mixN (x : Nat) : Nat := shN 31 (shN 27 (shN 30 x * 13787848793156543929 % 2 ^ 64) * 10723151780598845931 % 2 ^ 64)
theorem wrap_nat (n : Nat) : IntKind.u64.wrap (n : Int) = ((n % 2 ^ 64 : Nat) : Int) := by rw [IntKind.wrap_u64]; omega
theorem mix_is (x : Nat) (hx : x < 2 ^ 64) : mix_Mix.f (x : Int) = some ((mixN x : Nat) : Int) := by
  unfold mix_Mix.f
  have h1 := shift_is x 30 hx (by decide)
  have h2 := shift_is (shN 30 x * 13787848793156543929 % 2 ^ 64) 27 (Nat.mod_lt _ (by decide)) (by decide)
  have h3 := shift_is (shN 27 (shN 30 x * 13787848793156543929 % 2 ^ 64) * 10723151780598845931 % 2 ^ 64) 31 (Nat.mod_lt _ (by decide)) (by decide)
  have e1 : IntKind.u64.wrap (((shN 30 x : Nat) : Int) * 13787848793156543929) = ((shN 30 x * 13787848793156543929 % 2 ^ 64 : Nat) : Int) := by rw [IntKind.wrap_u64]; omega
  have e2 : IntKind.u64.wrap (((shN 27 (shN 30 x * 13787848793156543929 % 2 ^ 64) : Nat) : Int) * 10723151780598845931) = ((shN 27 (shN 30 x * 13787848793156543929 % 2 ^ 64) * 10723151780598845931 % 2 ^ 64 : Nat) : Int) := by rw [IntKind.wrap_u64]; omega
  rw [show ((30 : Nat) : Int) = 30 from rfl] at h1
  rw [show ((27 : Nat) : Int) = 27 from rfl] at h2
  rw [show ((31 : Nat) : Int) = 31 from rfl] at h3
  rw [h1, Option.bind_some, e1, h2, Option.bind_some, e2, h3]
  rfl
theorem mixN_lt (x : Nat) : mixN x < 2 ^ 64 := shN_lt _ _ (Nat.mod_lt _ (by decide))

/-- Shift-mixing is undone by going on. -/
theorem unshift_step (x s c : Nat) : shN s x ^^^ ((x ^^^ (x >>> c)) >>> s) = x ^^^ (x >>> (c + s)) := by
  unfold shN
  rw [Nat.shiftRight_xor_distrib, ← Nat.shiftRight_add]
  rw [Nat.xor_assoc, ← Nat.xor_assoc (x >>> s), Nat.xor_self, Nat.zero_xor]
theorem shN_inj (s : Nat) (hs : 1 ≤ s) {x y : Nat} (hx : x < 2 ^ 64) (hy : y < 2 ^ 64) (h : shN s x = shN s y) : x = y := by
  have key : ∀ m : Nat, x ^^^ (x >>> (s * (m + 1))) = y ^^^ (y >>> (s * (m + 1))) := by
    intro m
    induction m with
    | zero => simpa [shN] using h
    | succ m ih =>
      have := unshift_step x s (s * (m + 1))
      have h2 := unshift_step y s (s * (m + 1))
      rw [ih, h, h2] at this
      rw [show s * (m + 1 + 1) = s * (m + 1) + s by rw [Nat.mul_succ s (m + 1)]]
      exact this.symm
  have h1 := key 63
  have big : ∀ z, z < 2 ^ 64 → z >>> (s * (63 + 1)) = 0 := by
    intro z hz
    rw [Nat.shiftRight_eq_div_pow]
    refine Nat.div_eq_of_lt (Nat.lt_of_lt_of_le hz (Nat.pow_le_pow_right (by decide) ?_))
    omega
  rw [big x hx, big y hy, Nat.xor_zero, Nat.xor_zero] at h1
  exact h1
theorem mul_inj (c c' : Nat) (hc : c * c' % 2 ^ 64 = 1) {x y : Nat} (hx : x < 2 ^ 64) (hy : y < 2 ^ 64) (h : x * c % 2 ^ 64 = y * c % 2 ^ 64) : x = y := by
  have back : ∀ z, z < 2 ^ 64 → (z * c % 2 ^ 64) * c' % 2 ^ 64 = z := by
    intro z hz
    rw [Nat.mod_mul_mod, Nat.mul_assoc, ← Nat.mul_mod_mod, hc, Nat.mul_one]
    exact Nat.mod_eq_of_lt hz
  rw [← back x hx, ← back y hy, h]
theorem mixN_inj {x y : Nat} (hx : x < 2 ^ 64) (hy : y < 2 ^ 64) (h : mixN x = mixN y) : x = y := by
  unfold mixN at h
  have h1 := shN_inj 31 (by decide) (Nat.mod_lt _ (by decide)) (Nat.mod_lt _ (by decide)) h
  have h2 := mul_inj 10723151780598845931 3573116690164977347 (by decide) (shN_lt _ _ (Nat.mod_lt _ (by decide))) (shN_lt _ _ (Nat.mod_lt _ (by decide))) h1
  have h3 := shN_inj 27 (by decide) (Nat.mod_lt _ (by decide)) (Nat.mod_lt _ (by decide)) h2
  have h4 := mul_inj 13787848793156543929 10871156337175269513 (by decide) (shN_lt _ _ hx) (shN_lt _ _ hy) h3
  exact shN_inj 30 (by decide) hx hy h4
/-- The keys, stirred. -/
def mixL (l : List Int) : List Int := l.map fun x => ((mixN x.toNat : Nat) : Int)
theorem mixL_wf (l : List Int) : Wf (mixL l) := fun x hx => by
  obtain ⟨y, _, rfl⟩ := List.mem_map.1 hx
  have := mixN_lt y.toNat
  exact bd_wf (by omega) (by omega)
theorem mix_wf {x : Int} (hw : (Lit.int .u64 x).wf = true) : mix_Mix.f x = some ((mixN x.toNat : Nat) : Int) := by
  obtain ⟨h0, h1⟩ := wf_bd hw
  have := mix_is x.toNat (by omega)
  rwa [Int.toNat_of_nonneg h0] at this
theorem mapO_all (g : Int → Option Int) (f : Int → Int) : ∀ l : List Int, (∀ x ∈ l, g x = some (f x)) → mapO g l = some (l.map f) := by
  intro l
  induction l with
  | nil => intro _; rfl
  | cons x xs ih =>
    intro h
    simp only [mapO]
    rw [h x (by simp), Option.bind_some, ih (fun y hy => h y (by simp [hy]))]
    rfl
theorem mixed_is {l : List Int} (hl : l.length ≤ 1000000) (hw : Wf l) : rename_Mixed.f l = some (mixL l) := by
  unfold rename_Mixed.f
  rw [if_pos hl]
  exact mapO_all _ _ l fun x hx => mix_wf (hw x hx)
theorem mixL_len (l : List Int) : (mixL l).length = l.length := by simp [mixL]
theorem alike_mixed {l : List Int} (hw : Wf l) : AlikeL l (mixL l) := by
  refine ⟨(mixL_len l).symm, fun i hi j hj => ?_⟩
  unfold Agree
  rw [rd_at l i hi, rd_at l j (by omega), rd_at _ i (by rw [mixL_len]; exact hi), rd_at _ j (by rw [mixL_len]; omega)]
  simp only [mixL, List.getElem_map]
  constructor
  · intro e; rw [e]
  · intro e
    obtain ⟨a0, a1⟩ := wf_bd (hw _ (List.getElem_mem hi))
    obtain ⟨b0, b1⟩ := wf_bd (hw _ (List.getElem_mem (show j < l.length by omega)))
    have := mixN_inj (x := l[i].toNat) (y := l[j].toNat) (by omega) (by omega) (by omega)
    omega

theorem alive_ev : Ev (fun k => hutchlaw32_alive.f k) true := Ev.of hutchlaw32_alive.mono (k := 20) (by decide +kernel)

theorem alike_law (a b : List Int) (wa : Wf a) (wb : Wf b) : Ev (fun k => hutchlaw32_RenameAlike.f k a b) true := by
  unfold hutchlaw32_RenameAlike.f
  have hal : Ev (fun k => hutchlaw32_RenameAlike.j0 k a b true) true := by
    refine Ev.step (f := fun k => (hutchlaw32_alive.f k).bind fun t => some t) (fun k => ?_) (Ev.bind alive_ev (Ev.now _))
    simp only [hutchlaw32_RenameAlike.j0, if_true]
  by_cases h1 : (a.length : Int) > 60
  · simp only [if_pos h1]; exact hal
  · simp only [if_neg h1]
    by_cases h2 : (b.length : Int) > 60
    · simp only [decide_eq_true h2]; exact hal
    · simp only [decide_eq_false h2]
      have la : a.length ≤ 1000000 := by omega
      have lb : b.length ≤ 1000000 := by omega
      refine Ev.step (fun k => by simp only [hutchlaw32_RenameAlike.j0]; rw [if_neg (by simp)]) ?_
      refine Ev.bind (Ev.plain (dense_ev la wa)) (Ev.bind (ralike_ev la lb wa wb) ?_)
      obtain ⟨g1, g2⟩ := alike_ev a b la
      have href : Ev (fun k => hutchref32_Alike.f k a b) (decide (denseOf a = denseOf b)) := by
        by_cases hd : denseOf a = denseOf b
        · rw [decide_eq_true hd]; exact g1 ((dense_iff a b).1 hd)
        · rw [decide_eq_false hd]; exact g2 fun h => hd ((dense_iff a b).2 h)
      refine Ev.bind href ?_
      simp only [beq_self_eq_true, if_true]
      refine Ev.bind ((alike_ev a (denseOf a) la).1 (alike_dense a)) ?_
      simp only [if_true]
      have hdd := ralike_ev (a := a) (b := denseOf a) la (by rw [dense_len]; exact la) wa (dense_wf a la)
      rw [decide_eq_true ((dense_iff _ _).2 (alike_dense a))] at hdd
      refine Ev.bind hdd ?_
      simp only [if_true]
      refine Ev.bind (Ev.plain (mixed_is la wa)) ?_
      have hdm := ralike_ev (a := a) (b := mixL a) la (by rw [mixL_len]; exact la) wa (mixL_wf a)
      rw [decide_eq_true ((dense_iff _ _).2 (alike_mixed wa))] at hdm
      refine Ev.bind hdm ?_
      simp only [if_true]
      exact Ev.bind alive_ev (Ev.now _)
end Go.Proofs.Ytdjbpdahdakfjaa.RenPure
