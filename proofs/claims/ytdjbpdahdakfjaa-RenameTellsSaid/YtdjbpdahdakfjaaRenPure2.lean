/- The plain laws of names: what is told of any trace is as the document says. -/
import Derived.Test.YtdjbpdahdakfjaaPRenx5
import Derived.Test.YtdjbpdahdakfjaaRenPure
namespace Go.Proofs.Ytdjbpdahdakfjaa.RenPure
open Go.RowKit Go.Proofs.Ytdjbpdahdakfjaa.PRen Go.Proofs.YtdjbpdahdakfjaaW.PrintWords Go.Proofs.YtdjbpdahdakfjaaW.PrintLast Go.Proofs.YtdjbpdahdakfjaaW

theorem take_succ_rd (l : List Int) (i : Nat) (h : i < l.length) : l.take (i + 1) = l.take i ++ [rd l (i : Int)] := by
  rw [List.take_succ_eq_append_getElem h, rd_at l i h]

/-! The document's words. -/
theorem has_l0 (l : List Int) (x : Int) (hb : l.length ≤ 1000000) (d : Nat) : ∀ i : Nat, i ≤ l.length → l.length - i = d → Ev (fun k => hutchref12_Has.l0 k l x (i : Int)) (decide (x ∈ l.drop i)) := by
  induction d with
  | zero =>
    intro i hi hd
    refine Ev.from 1 fun k => ?_
    simp only [hutchref12_Has.l0]
    rw [if_neg (by omega), List.drop_of_length_le (by omega)]
    simp
  | succ d ih =>
    intro i hi hd
    have ha : i < l.length := by omega
    rw [List.drop_eq_getElem_cons ha]
    have step : ∀ k, hutchref12_Has.l0 (k + 1) l x (i : Int) = if l[i] = x then some true else hutchref12_Has.l0 k l x ((i + 1 : Nat) : Int) := by
      intro k
      simp only [hutchref12_Has.l0]
      rw [if_pos (by omega), if_pos (by omega), rd_at l i ha, w64_succ i (by omega)]
    by_cases e : l[i] = x
    · refine Ev.from 1 fun k => ?_
      rw [step, if_pos e, decide_eq_true (List.mem_cons.2 (.inl e.symm))]
    · refine Ev.step (fun k => by rw [step, if_neg e]) ?_
      have : (x ∈ l[i] :: l.drop (i + 1)) ↔ x ∈ l.drop (i + 1) := by
        rw [List.mem_cons]
        exact ⟨fun h => h.resolve_left (fun h => e h.symm), .inr⟩
      rw [decide_eq_decide.2 this]
      exact ih (i + 1) (by omega) (by omega)
theorem has_ev (l : List Int) (x : Int) (hb : l.length ≤ 1000000) : Ev (fun k => hutchref12_Has.f k l x) (decide (x ∈ l)) := by
  have := has_l0 l x hb _ 0 (by omega) rfl
  simpa [hutchref12_Has.f] using this
theorem unlike_l0 (l : List Int) (hb : l.length ≤ 1000000) (d : Nat) : ∀ i : Nat, i ≤ l.length → l.length - i = d → Ev (fun k => hutchref24_Unlike.l0 k l (unlikeOf (l.take i)) (i : Int)) (unlikeOf l) := by
  induction d with
  | zero =>
    intro i hi hd
    refine Ev.from 1 fun k => ?_
    simp only [hutchref24_Unlike.l0]
    rw [if_neg (by omega), List.take_of_length_le (by omega)]
  | succ d ih =>
    intro i hi hd
    have ha : i < l.length := by omega
    have hu := unlikeOf_len _ (l.take i) rfl
    rw [List.length_take] at hu
    have hn := ih (i + 1) (by omega) (by omega)
    rw [take_succ_rd l i ha, unlikeOf_snoc] at hn
    refine Ev.step (f := fun k => (hutchref12_Has.f k (unlikeOf (l.take i)) (rd l (i : Int))).bind fun t => if t = true then hutchref24_Unlike.l0 k l (unlikeOf (l.take i)) ((i + 1 : Nat) : Int) else if (unlikeOf (l.take i)).length < 17592186044416 then hutchref24_Unlike.l0 k l (unlikeOf (l.take i) ++ [rd l (i : Int)]) ((i + 1 : Nat) : Int) else none) (fun k => ?_) (Ev.bind (has_ev _ _ (by omega)) ?_)
    · simp only [hutchref24_Unlike.l0]
      rw [if_pos (by omega), if_pos (by omega), w64_succ i (by omega)]
    · by_cases hm : rd l (i : Int) ∈ unlikeOf (l.take i)
      · rw [if_pos hm] at hn
        simp only [decide_eq_true hm, if_true]
        exact hn
      · rw [if_neg hm] at hn
        simp only [decide_eq_false hm, Bool.false_eq_true, if_false]
        simp only [if_pos (show (unlikeOf (l.take i)).length < 17592186044416 by omega)]
        exact hn
theorem unlike_ev (l : List Int) (hb : l.length ≤ 1000000) : Ev (fun k => hutchref24_Unlike.f k l) (unlikeOf l) := by
  have := unlike_l0 l hb _ 0 (by omega) rfl
  simpa [hutchref24_Unlike.f, unlikeOf_nil] using this
theorem place_l0 (l : List Int) (x : Int) (hx : x ∈ l) (hb : l.length ≤ 1000000) (d : Nat) : ∀ i : Nat, i ≤ l.idxOf x → l.idxOf x - i = d → Ev (fun k => hutchref32_place.l0 k l x (i : Int)) ((l.idxOf x : Nat) : Int) := by
  have hlt := List.idxOf_lt_length_of_mem hx
  induction d with
  | zero =>
    intro i hi hd
    have e : i = l.idxOf x := by omega
    refine Ev.from 1 fun k => ?_
    simp only [hutchref32_place.l0]
    rw [e, if_pos (by omega), if_pos (by omega), rd_at l _ hlt, if_pos (List.getElem_idxOf hlt)]
  | succ d ih =>
    intro i hi hd
    refine Ev.step (fun k => ?_) (ih (i + 1) (by omega) (by omega))
    have hne : l[i] ≠ x := by
      intro he
      have hnl := List.not_of_lt_findIdx (p := fun y => y == x) (xs := l) (i := i) (by show i < l.idxOf x; omega)
      simp [he] at hnl
    simp only [hutchref32_place.l0]
    rw [if_pos (by omega), if_pos (by omega), rd_at l i (by omega), if_neg hne, w64_succ i (by omega)]
theorem place_ev (l : List Int) (x : Int) (hx : x ∈ l) (hb : l.length ≤ 1000000) : Ev (fun k => hutchref32_place.f k l x) ((l.idxOf x : Nat) : Int) := by
  have := place_l0 l x hx hb _ 0 (by omega) rfl
  simpa [hutchref32_place.f] using this
theorem rdense_l0 (l : List Int) (hb : l.length ≤ 1000000) (d : Nat) : ∀ i : Nat, i ≤ l.length → l.length - i = d →
    Ev (fun k => hutchref32_Dense.l0 k l (unlikeOf l) ((l.take i).map fun x => (((unlikeOf l).idxOf x : Nat) : Int)) (i : Int)) (denseOf l) := by
  have hu := unlikeOf_len _ l rfl
  induction d with
  | zero =>
    intro i hi hd
    refine Ev.from 1 fun k => ?_
    simp only [hutchref32_Dense.l0]
    rw [if_neg (by omega), List.take_of_length_le (by omega)]
    rfl
  | succ d ih =>
    intro i hi hd
    have ha : i < l.length := by omega
    have hm : rd l (i : Int) ∈ unlikeOf l := by rw [rd_at l i ha]; exact (mem_unlike l _).2 (List.getElem_mem _)
    have hx := List.idxOf_lt_length_of_mem hm
    have hn := ih (i + 1) (by omega) (by omega)
    rw [take_succ_rd l i ha, List.map_append, List.map_singleton] at hn
    refine Ev.step (f := fun k => (hutchref32_place.f k (unlikeOf l) (rd l (i : Int))).bind fun t => if ((l.take i).map fun x => (((unlikeOf l).idxOf x : Nat) : Int)).length < 17592186044416 then hutchref32_Dense.l0 k l (unlikeOf l) (((l.take i).map fun x => (((unlikeOf l).idxOf x : Nat) : Int)) ++ [IntKind.u64.wrap t]) ((i + 1 : Nat) : Int) else none) (fun k => ?_) (Ev.bind (place_ev _ _ hm (by omega)) ?_)
    · simp only [hutchref32_Dense.l0]
      rw [if_pos (by omega), if_pos (by omega), w64_succ i (by omega)]
    · have e : IntKind.u64.wrap (((unlikeOf l).idxOf (rd l (i : Int)) : Nat) : Int) = (((unlikeOf l).idxOf (rd l (i : Int)) : Nat) : Int) := by rw [IntKind.wrap_u64]; omega
      have hll : ((l.take i).map fun x => (((unlikeOf l).idxOf x : Nat) : Int)).length < 17592186044416 := by rw [List.length_map, List.length_take]; omega
      simp only [if_pos hll, e]
      exact hn
theorem rdense_ev (l : List Int) (hb : l.length ≤ 1000000) : Ev (fun k => hutchref32_Dense.f k l) (denseOf l) := by
  unfold hutchref32_Dense.f
  refine Ev.bind (unlike_ev l hb) ?_
  have := rdense_l0 l hb _ 0 (by omega) rfl
  simpa using this

/-! Stirring, as the document has it. -/
theorem half_nat (a b : Nat) : (a ||| b) - (a &&& b) = a ^^^ b := by
  have h : ∀ n a b : Nat, a < 2 ^ n → b < 2 ^ n → (a ^^^ b) + (a &&& b) = a ||| b := by
    intro n
    induction n with
    | zero => intro a b ha hb; have e1 : a = 0 := by simpa using ha
              have e2 : b = 0 := by simpa using hb
              rw [e1, e2]; rfl
    | succ n ih =>
      intro a b ha hb
      have h2 := ih (a / 2) (b / 2) (by omega) (by omega)
      have x1 := Nat.div_add_mod (a ^^^ b) 2
      have x2 := Nat.div_add_mod (a &&& b) 2
      have x3 := Nat.div_add_mod (a ||| b) 2
      have m1 : (a ^^^ b) % 2 = (a % 2) ^^^ (b % 2) := by rw [Nat.xor_mod_two_pow (n := 1)]
      have m2 : (a &&& b) % 2 = (a % 2) &&& (b % 2) := by rw [Nat.and_mod_two_pow (n := 1)]
      have m3 : (a ||| b) % 2 = (a % 2) ||| (b % 2) := by rw [Nat.or_mod_two_pow (n := 1)]
      rw [Nat.xor_div_two, m1] at x1
      rw [Nat.and_div_two, m2] at x2
      rw [Nat.or_div_two, m3] at x3
      have hm : (a % 2 ^^^ b % 2) + (a % 2 &&& b % 2) = a % 2 ||| b % 2 := by
        rcases Nat.mod_two_eq_zero_or_one a with e | e <;> rcases Nat.mod_two_eq_zero_or_one b with e' | e' <;> rw [e, e'] <;> rfl
      omega
  have hh := h (a + b) a b (Nat.lt_of_le_of_lt (Nat.le_add_right _ _) Nat.lt_two_pow_self) (Nat.lt_of_le_of_lt (Nat.le_add_left _ _) Nat.lt_two_pow_self)
  omega
theorem half_is (x s : Nat) (hx : x < 2 ^ 64) : hutchref01_half.f (x : Int) ((2 ^ s : Nat) : Int) = some ((shN s x : Nat) : Int) := by
  unfold hutchref01_half.f
  have hp : 0 < 2 ^ s := Nat.two_pow_pos s
  have hd : x / 2 ^ s ≤ x := Nat.div_le_self _ _
  rw [if_neg (by omega)]
  have e1 : IntKind.u64.wrap (Int.tdiv (x : Int) ((2 ^ s : Nat) : Int)) = ((x >>> s : Nat) : Int) := by
    rw [show Int.tdiv (x : Int) ((2 ^ s : Nat) : Int) = ((x / 2 ^ s : Nat) : Int) from rfl, IntKind.wrap_u64, Nat.shiftRight_eq_div_pow]; generalize x / 2 ^ s = z at *; omega
  rw [e1]
  obtain ⟨b1, b2⟩ := bits_nat .u64 64 (by decide) (fun n h0 h1 => by rw [IntKind.wrap_u64]; omega) x (x >>> s) hx (Nat.lt_of_le_of_lt (Nat.shiftRight_le _ _) hx)
  rw [b1, b2]
  have h1 := half_nat x (x >>> s)
  have h2 : x &&& (x >>> s) ≤ x ||| (x >>> s) := Nat.le_trans Nat.and_le_left Nat.left_le_or
  have h3 := shN_lt s x hx
  rw [IntKind.wrap_u64]
  unfold shN at h3 ⊢
  congr 1
  omega
theorem rmix_is (x : Nat) (hx : x < 2 ^ 64) : hutchref01_Mix.f (x : Int) = some ((mixN x : Nat) : Int) := by
  unfold hutchref01_Mix.f
  have h1 := half_is x 30 hx
  have h2 := half_is (shN 30 x * 13787848793156543929 % 2 ^ 64) 27 (Nat.mod_lt _ (by decide))
  have h3 := half_is (shN 27 (shN 30 x * 13787848793156543929 % 2 ^ 64) * 10723151780598845931 % 2 ^ 64) 31 (Nat.mod_lt _ (by decide))
  have e1 : IntKind.u64.wrap (((shN 30 x : Nat) : Int) * 13787848793156543929) = ((shN 30 x * 13787848793156543929 % 2 ^ 64 : Nat) : Int) := by rw [IntKind.wrap_u64]; omega
  have e2 : IntKind.u64.wrap (((shN 27 (shN 30 x * 13787848793156543929 % 2 ^ 64) : Nat) : Int) * 10723151780598845931) = ((shN 27 (shN 30 x * 13787848793156543929 % 2 ^ 64) * 10723151780598845931 % 2 ^ 64 : Nat) : Int) := by rw [IntKind.wrap_u64]; omega
  rw [show ((2 ^ 30 : Nat) : Int) = 1073741824 from rfl] at h1
  rw [show ((2 ^ 27 : Nat) : Int) = 134217728 from rfl] at h2
  rw [show ((2 ^ 31 : Nat) : Int) = 2147483648 from rfl] at h3
  rw [h1, Option.bind_some, e1, h2, Option.bind_some, e2, h3]
  rfl
theorem rmix_wf {x : Int} (hw : (Lit.int .u64 x).wf = true) : hutchref01_Mix.f x = some ((mixN x.toNat : Nat) : Int) := by
  obtain ⟨h0, h1⟩ := wf_bd hw
  have := rmix_is x.toNat (by omega)
  rwa [Int.toNat_of_nonneg h0] at this
theorem rd_wf {l : List Int} (hw : Wf l) (i : Nat) (h : i < l.length) : (Lit.int .u64 (rd l (i : Int))).wf = true := by rw [rd_at l i h]; exact hw _ (List.getElem_mem _)
theorem rmixed_l0 (l : List Int) (hb : l.length ≤ 1000000) (hw : Wf l) (d : Nat) : ∀ i : Nat, i ≤ l.length → l.length - i = d →
    Ev (fun k => hutchref32_Mixed.l0 k l (mixL (l.take i)) (i : Int)) (mixL l) := by
  induction d with
  | zero =>
    intro i hi hd
    refine Ev.from 1 fun k => ?_
    simp only [hutchref32_Mixed.l0]
    rw [if_neg (by omega), List.take_of_length_le (by omega)]
  | succ d ih =>
    intro i hi hd
    have ha : i < l.length := by omega
    have hn := ih (i + 1) (by omega) (by omega)
    rw [take_succ_rd l i ha] at hn
    refine Ev.step (fun k => ?_) hn
    simp only [hutchref32_Mixed.l0]
    rw [if_pos (by omega), if_pos (by omega), rmix_wf (rd_wf hw i ha), Option.bind_some, if_pos (by rw [mixL_len, List.length_take]; omega), w64_succ i (by omega)]
    simp [mixL]
theorem rmixed_ev (l : List Int) (hb : l.length ≤ 1000000) (hw : Wf l) : Ev (fun k => hutchref32_Mixed.f k l) (mixL l) := by
  have := rmixed_l0 l hb hw _ 0 (by omega) rfl
  simpa [hutchref32_Mixed.f, mixL] using this

/-! Back. -/
theorem unshift_l0 (x s : Nat) (hx : x < 2 ^ 64) (h1 : 1 ≤ s) (h2 : s ≤ 64) (d : Nat) : ∀ c : Nat, c ≤ 128 → 64 - c ≤ d → Ev (fun k => mix_unshift.l0 k ((shN s x : Nat) : Int) (s : Int) ((x ^^^ (x >>> c) : Nat) : Int) (c : Int)) (x : Int) := by
  have hs := shN_lt s x hx
  have done : ∀ c : Nat, 64 ≤ c → Ev (fun k => mix_unshift.l0 k ((shN s x : Nat) : Int) (s : Int) ((x ^^^ (x >>> c) : Nat) : Int) (c : Int)) (x : Int) := by
    intro c hc
    refine Ev.from 1 fun k => ?_
    simp only [mix_unshift.l0]
    have hz : x >>> c = 0 := by
      rw [Nat.shiftRight_eq_div_pow]
      exact Nat.div_eq_of_lt (Nat.lt_of_lt_of_le hx (Nat.pow_le_pow_right (by decide) hc))
    rw [if_neg (by omega), hz, Nat.xor_zero]
  induction d with
  | zero => intro c _ hc; exact done c (by omega)
  | succ d ih =>
    intro c hc hd
    by_cases h64 : 64 ≤ c
    · exact done c h64
    · have hn := ih (c + s) (by omega) (by omega)
      refine Ev.step (fun k => ?_) hn
      have hy : x ^^^ (x >>> c) < 2 ^ 64 := shN_lt c x hx
      simp only [mix_unshift.l0]
      rw [if_pos (by omega), if_pos (by omega), shr_nat _ s h2, bits_xor _ _ hs (Nat.lt_of_le_of_lt (Nat.shiftRight_le _ _) hy), unshift_step]
      have e : IntKind.u64.wrap ((c : Int) + (s : Int)) = ((c + s : Nat) : Int) := by rw [IntKind.wrap_u64]; omega
      rw [e]
theorem unshift_ev (x s : Nat) (hx : x < 2 ^ 64) (h1 : 1 ≤ s) (h2 : s ≤ 64) : Ev (fun k => mix_unshift.f k ((shN s x : Nat) : Int) (s : Int)) (x : Int) :=
  unshift_l0 x s hx h1 h2 64 s (by omega) (by omega)
theorem mul_back (c c' : Nat) (hc : c * c' % 2 ^ 64 = 1) (z : Nat) (hz : z < 2 ^ 64) : (z * c % 2 ^ 64) * c' % 2 ^ 64 = z := by
  rw [Nat.mod_mul_mod, Nat.mul_assoc, ← Nat.mul_mod_mod, hc, Nat.mul_one]
  exact Nat.mod_eq_of_lt hz
theorem back_ev (x : Nat) (hx : x < 2 ^ 64) : Ev (fun k => mix_Back.f k ((mixN x : Nat) : Int)) (x : Int) := by
  unfold mix_Back.f mixN
  have l1 := shN_lt 30 x hx
  have l2 : shN 30 x * 13787848793156543929 % 2 ^ 64 < 2 ^ 64 := Nat.mod_lt _ (by decide)
  have l3 := shN_lt 27 _ l2
  have l4 : shN 27 (shN 30 x * 13787848793156543929 % 2 ^ 64) * 10723151780598845931 % 2 ^ 64 < 2 ^ 64 := Nat.mod_lt _ (by decide)
  refine Ev.bind (unshift_ev _ 31 l4 (by decide) (by decide)) ?_
  have e1 : IntKind.u64.wrap (((shN 27 (shN 30 x * 13787848793156543929 % 2 ^ 64) * 10723151780598845931 % 2 ^ 64 : Nat) : Int) * 3573116690164977347) = ((shN 27 (shN 30 x * 13787848793156543929 % 2 ^ 64) : Nat) : Int) := by
    have := mul_back 10723151780598845931 3573116690164977347 (by decide) _ l3
    rw [IntKind.wrap_u64]; omega
  rw [e1]
  refine Ev.bind (unshift_ev _ 27 l2 (by decide) (by decide)) ?_
  have e2 : IntKind.u64.wrap (((shN 30 x * 13787848793156543929 % 2 ^ 64 : Nat) : Int) * 10871156337175269513) = ((shN 30 x : Nat) : Int) := by
    have := mul_back 13787848793156543929 10871156337175269513 (by decide) _ l1
    rw [IntKind.wrap_u64]; omega
  rw [e2]
  exact Ev.bind (unshift_ev _ 30 hx (by decide) (by decide)) (Ev.now _)
theorem plain_mapO (l : List Int) (hw : Wf l) : Ev (fun k => mapO (mix_Back.f k) (mixL l)) l := by
  induction l with
  | nil => exact Ev.now _
  | cons x xs ih =>
    obtain ⟨h0, h1⟩ := wf_bd (hw x (by simp))
    have hb := back_ev x.toNat (by omega)
    rw [Int.toNat_of_nonneg h0] at hb
    exact Ev.bind hb (Ev.bind (ih fun y hy => hw y (by simp [hy])) (Ev.now _))
theorem plain_ev (l : List Int) (hb : l.length ≤ 1000000) (hw : Wf l) : Ev (fun k => rename_Plain.f k (mixL l)) l := by
  unfold rename_Plain.f
  simp only [if_pos (show (mixL l).length ≤ 1000000 by rw [mixL_len]; exact hb)]
  exact plain_mapO l hw

/-! Slots. -/
/-- A key's slot among 2^b. -/
def slotV (x b : Int) : Int := if b < 1 then 0 else if b > 30 then 0 else ((mixN x.toNat / 2 ^ (64 - b.toNat) : Nat) : Int)
theorem slot_bd (t n : Nat) (ht : t < 2 ^ 64) (hn : 34 ≤ n) : t / 2 ^ n < 2 ^ 30 := by
  rw [Nat.div_lt_iff_lt_mul (Nat.two_pow_pos _)]
  refine Nat.lt_of_lt_of_le ht ?_
  rw [← Nat.pow_add]
  exact Nat.pow_le_pow_right (by decide) (by omega)
theorem slot_is (x b : Int) (hw : (Lit.int .u64 x).wf = true) : mix_Slot.f x b = some (slotV x b) := by
  unfold mix_Slot.f slotV
  by_cases h1 : b < 1
  · rw [if_pos h1, if_pos h1]
  · rw [if_neg h1, if_neg h1]
    by_cases h2 : b > 30
    · rw [if_pos h2, if_pos h2]
    · rw [if_neg h2, if_neg h2, mix_wf hw, Option.bind_some]
      have e1 : IntKind.u64.wrap (wrap64 (64 - b)) = ((64 - b.toNat : Nat) : Int) := by
        have : wrap64 (64 - b) = 64 - b := by unfold wrap64; omega
        rw [this, IntKind.wrap_u64]; omega
      rw [e1, if_pos (by omega), shr_nat _ _ (by omega), Nat.shiftRight_eq_div_pow]
      have := slot_bd (mixN x.toNat) (64 - b.toNat) (mixN_lt _) (by omega)
      generalize mixN x.toNat / 2 ^ (64 - b.toNat) = z at *
      congr 1
      unfold wrap64; omega
theorem rslot_l0 (t : Nat) (ht : t < 2 ^ 64) (d : Nat) : ∀ (n b : Nat), 64 - b = d → b ≤ 64 → 34 ≤ n + (64 - b) → Ev (fun k => hutchref01_Slot.l0 k ((t / 2 ^ n : Nat) : Int) (b : Int)) ((t / 2 ^ (n + (64 - b)) : Nat) : Int) := by
  induction d with
  | zero =>
    intro n b hd hb hn
    refine Ev.from 1 fun k => ?_
    simp only [hutchref01_Slot.l0]
    have := slot_bd t n ht (by omega)
    rw [if_neg (by omega), hd, Nat.add_zero]
    generalize t / 2 ^ n = z at *
    congr 1
    unfold wrap64; omega
  | succ d ih =>
    intro n b hd hb hn
    have hi := ih (n + 1) (b + 1) (by omega) (by omega) (by omega)
    rw [show n + 1 + (64 - (b + 1)) = n + (64 - b) by omega] at hi
    refine Ev.step (fun k => ?_) hi
    simp only [hutchref01_Slot.l0]
    have hle : t / 2 ^ n ≤ t := Nat.div_le_self _ _
    have e1 : IntKind.u64.wrap (Int.tdiv ((t / 2 ^ n : Nat) : Int) 2) = ((t / 2 ^ (n + 1) : Nat) : Int) := by
      rw [show Int.tdiv ((t / 2 ^ n : Nat) : Int) 2 = ((t / 2 ^ n / 2 : Nat) : Int) from rfl, Nat.div_div_eq_div_mul, ← Nat.pow_succ, IntKind.wrap_u64]
      have : t / 2 ^ (n + 1) ≤ t := Nat.div_le_self _ _
      rw [Nat.succ_eq_add_one]
      generalize t / 2 ^ (n + 1) = z at *
      omega
    have e2 : wrap64 ((b : Int) + 1) = ((b + 1 : Nat) : Int) := by unfold wrap64; omega
    rw [if_pos (by omega), e1, e2]
theorem rslot_ev (x b : Int) (hw : (Lit.int .u64 x).wf = true) : Ev (fun k => hutchref01_Slot.f k x b) (slotV x b) := by
  unfold hutchref01_Slot.f slotV
  by_cases h1 : b < 1
  · simp only [if_pos h1]
    refine Ev.from 1 fun k => ?_
    simp only [hutchref01_Slot.j0, if_true]
  · simp only [if_neg h1]
    by_cases h2 : b > 30
    · simp only [decide_eq_true h2, if_pos h2]
      refine Ev.from 1 fun k => ?_
      simp only [hutchref01_Slot.j0, if_true]
    · simp only [decide_eq_false h2, if_neg h2]
      have := rslot_l0 (mixN x.toNat) (mixN_lt _) _ 0 b.toNat rfl (by omega) (by omega)
      rw [Nat.pow_zero, Nat.div_one, Nat.zero_add, Int.toNat_of_nonneg (show 0 ≤ b by omega)] at this
      refine Ev.step (fun k => ?_) this
      simp only [hutchref01_Slot.j0, Bool.false_eq_true, if_false]
      rw [rmix_wf hw, Option.bind_some]
/-- The sample. -/
def sampleL (b : Int) (l : List Int) : List Int := l.filter fun x => slotV x b == 0
theorem sample_snoc (b : Int) (l : List Int) (x : Int) : sampleL b (l ++ [x]) = if slotV x b = 0 then sampleL b l ++ [x] else sampleL b l := by
  unfold sampleL
  rw [List.filter_append]
  by_cases h : slotV x b = 0
  · rw [if_pos h]; simp [h]
  · rw [if_neg h]; simp [h]
theorem sample_l0 (l : List Int) (b : Int) (hb : l.length ≤ 1000000) (hw : Wf l) (d : Nat) : ∀ i : Nat, i ≤ l.length → l.length - i = d →
    Ev (fun k => rename_Sample.l0 k b (sampleL b (l.take i)) l (l.length : Int) (i : Int)) (sampleL b l) := by
  induction d with
  | zero =>
    intro i hi hd
    refine Ev.from 1 fun k => ?_
    simp only [rename_Sample.l0]
    rw [if_neg (by omega), List.take_of_length_le (by omega)]
  | succ d ih =>
    intro i hi hd
    have ha : i < l.length := by omega
    have hn := ih (i + 1) (by omega) (by omega)
    have hsl : (sampleL b (l.take i)).length ≤ 1000000 := by
      have := List.length_filter_le (fun x => slotV x b == 0) (l.take i)
      rw [List.length_take] at this
      unfold sampleL; omega
    rw [take_succ_rd l i ha, sample_snoc] at hn
    refine Ev.step (fun k => ?_) hn
    simp only [rename_Sample.l0]
    rw [if_pos (by omega), if_pos (by omega), if_pos (by omega), slot_is _ b (rd_wf hw i ha), Option.bind_some, w64_succ i (by omega), if_pos (show (sampleL b (l.take i)).length < 17592186044416 by omega)]
    by_cases h : slotV (rd l (i : Int)) b = 0
    · rw [if_pos h, if_pos h]
    · rw [if_neg h, if_neg h]
theorem sample_ev (l : List Int) (b : Int) (hb : l.length ≤ 1000000) (hw : Wf l) : Ev (fun k => rename_Sample.f k l b) (sampleL b l) := by
  have := sample_l0 l b hb hw _ 0 (by omega) rfl
  simpa [rename_Sample.f, sampleL] using this
theorem rsample_l0 (l : List Int) (b : Int) (hb : l.length ≤ 1000000) (hw : Wf l) (d : Nat) : ∀ i : Nat, i ≤ l.length → l.length - i = d →
    Ev (fun k => hutchref32_Sample.l0 k l b (sampleL b (l.take i)) (i : Int)) (sampleL b l) := by
  induction d with
  | zero =>
    intro i hi hd
    refine Ev.from 1 fun k => ?_
    simp only [hutchref32_Sample.l0]
    rw [if_neg (by omega), List.take_of_length_le (by omega)]
  | succ d ih =>
    intro i hi hd
    have ha : i < l.length := by omega
    have hn := ih (i + 1) (by omega) (by omega)
    have hsl : (sampleL b (l.take i)).length ≤ 1000000 := by
      have := List.length_filter_le (fun x => slotV x b == 0) (l.take i)
      rw [List.length_take] at this
      unfold sampleL; omega
    rw [take_succ_rd l i ha, sample_snoc] at hn
    refine Ev.step (f := fun k => (hutchref01_Slot.f k (rd l (i : Int)) b).bind fun t => if t = 0 then (if (sampleL b (l.take i)).length < 17592186044416 then hutchref32_Sample.l0 k l b (sampleL b (l.take i) ++ [rd l (i : Int)]) ((i + 1 : Nat) : Int) else none) else hutchref32_Sample.l0 k l b (sampleL b (l.take i)) ((i + 1 : Nat) : Int)) (fun k => ?_) (Ev.bind (rslot_ev _ b (rd_wf hw i ha)) ?_)
    · simp only [hutchref32_Sample.l0]
      rw [if_pos (by omega), if_pos (by omega), w64_succ i (by omega)]
    · simp only [if_pos (show (sampleL b (l.take i)).length < 17592186044416 by omega)]
      by_cases h : slotV (rd l (i : Int)) b = 0
      · rw [if_pos h] at hn; simp only [if_pos h]; exact hn
      · rw [if_neg h] at hn; simp only [if_neg h]; exact hn
theorem rsample_ev (l : List Int) (b : Int) (hb : l.length ≤ 1000000) (hw : Wf l) : Ev (fun k => hutchref32_Sample.f k l b) (sampleL b l) := by
  have := rsample_l0 l b hb hw _ 0 (by omega) rfl
  simpa [hutchref32_Sample.f, sampleL] using this

/-! Names. -/
theorem named_l0 (q nm : List Int) (hb : q.length ≤ 1000000) (hn : nm.length ≤ 1000000) (hq : ∀ x ∈ q, 0 ≤ x) (d : Nat) : ∀ i : Nat, i ≤ q.length → q.length - i = d →
    ((∀ x ∈ q.drop i, x < nm.length) → Ev (fun k => rename_Named.l0 k nm ((q.take i).map (rd nm)) q (q.length : Int) (i : Int)) (q.map (rd nm), 0)) ∧
    (¬ (∀ x ∈ q.drop i, x < nm.length) → Ev (fun k => rename_Named.l0 k nm ((q.take i).map (rd nm)) q (q.length : Int) (i : Int)) ([], 13)) := by
  have ew : IntKind.u64.wrap (nm.length : Int) = (nm.length : Int) := by rw [IntKind.wrap_u64]; omega
  induction d with
  | zero =>
    intro i hi hd
    rw [List.drop_of_length_le (by omega)]
    refine ⟨fun _ => Ev.from 1 fun k => ?_, fun h => absurd (fun x hx => by simp at hx) h⟩
    simp only [rename_Named.l0]
    rw [if_neg (by omega), List.take_of_length_le (by omega)]
  | succ d ih =>
    intro i hi hd
    have ha : i < q.length := by omega
    obtain ⟨g1, g2⟩ := ih (i + 1) (by omega) (by omega)
    rw [take_succ_rd q i ha, List.map_append, List.map_singleton] at g1 g2
    rw [List.drop_eq_getElem_cons ha]
    have h0 : 0 ≤ rd q (i : Int) := by rw [rd_at q i ha]; exact hq _ (List.getElem_mem _)
    have step : ∀ k, rename_Named.l0 (k + 1) nm ((q.take i).map (rd nm)) q (q.length : Int) (i : Int) = if rd q (i : Int) ≥ nm.length then some ([], 13) else if rd q (i : Int) < nm.length then rename_Named.l0 k nm ((q.take i).map (rd nm) ++ [rd nm (rd q (i : Int))]) q (q.length : Int) ((i + 1 : Nat) : Int) else none := by
      intro k
      simp only [rename_Named.l0]
      rw [if_pos (by omega), if_pos (by omega), if_pos (by omega), ew, if_pos h0, if_pos (show ((q.take i).map (rd nm)).length < 17592186044416 by rw [List.length_map, List.length_take]; omega), w64_succ i (by omega)]
    rw [rd_at q i ha] at step g1 g2
    by_cases hlt : q[i] < nm.length
    · have hall : (∀ x ∈ q[i] :: q.drop (i + 1), x < (nm.length : Int)) ↔ ∀ x ∈ q.drop (i + 1), x < (nm.length : Int) := by
        constructor
        · intro h x hx; exact h x (List.mem_cons_of_mem _ hx)
        · intro h x hx
          rcases List.mem_cons.1 hx with rfl | hx
          · exact hlt
          · exact h x hx
      rw [hall]
      have st : ∀ k, rename_Named.l0 (k + 1) nm ((q.take i).map (rd nm)) q (q.length : Int) (i : Int) = rename_Named.l0 k nm ((q.take i).map (rd nm) ++ [rd nm q[i]]) q (q.length : Int) ((i + 1 : Nat) : Int) := fun k => by rw [step, if_neg (by omega), if_pos hlt]
      exact ⟨fun h => Ev.step st (g1 h), fun h => Ev.step st (g2 h)⟩
    · refine ⟨fun h => absurd (h _ (List.mem_cons_self ..)) hlt, fun _ => Ev.from 1 fun k => ?_⟩
      rw [step, if_pos (by omega)]
theorem named_ev (q nm : List Int) (hb : q.length ≤ 1000000) (hn : nm.length ≤ 1000000) (hq : ∀ x ∈ q, 0 ≤ x) :
    ((∀ x ∈ q, x < nm.length) → Ev (fun k => rename_Named.f k q nm) (q.map (rd nm), 0)) ∧ (¬ (∀ x ∈ q, x < nm.length) → Ev (fun k => rename_Named.f k q nm) ([], 13)) := by
  have := named_l0 q nm hb hn hq _ 0 (by omega) rfl
  simpa [rename_Named.f] using this
theorem dense_back (l : List Int) : (denseOf l).map (rd (unlikeOf l)) = l := by
  unfold denseOf
  rw [List.map_map]
  conv => rhs; rw [← List.map_id l]
  refine List.map_congr_left fun x hx => ?_
  have := List.idxOf_lt_length_of_mem ((mem_unlike l x).2 hx)
  show rd (unlikeOf l) (((unlikeOf l).idxOf x : Nat) : Int) = x
  rw [rd_at _ _ this]
  exact List.getElem_idxOf this

/-! The statement. -/
theorem tells_end (a o : List Int) (b : Int) (nm x1 : List Int) (la : a.length ≤ 1000000) (wa : Wf a) (n : Int) (i : Int) (hni : ¬ i < n) : Ev (fun k => hutchlaw32_RenameTells.l1 k a o b nm x1 n i) true := by
  refine Ev.step (fun k => by simp only [hutchlaw32_RenameTells.l1]; rw [if_neg hni]) ?_
  refine Ev.bind (Ev.plain (mixed_is la wa)) (Ev.bind (rmixed_ev a la wa) (Ev.bind (same_ev _ _ (by rw [mixL_len]; exact la)) ?_))
  simp only [decide_true, if_true]
  refine Ev.bind (plain_ev a la wa) (Ev.bind (same_ev _ _ la) ?_)
  simp only [decide_true, if_true]
  have hs : (sampleL b a).length ≤ 1000000 := Nat.le_trans (List.length_filter_le _ _) la
  refine Ev.bind (sample_ev a b la wa) (Ev.bind (rsample_ev a b la wa) (Ev.bind (same_ev _ _ hs) ?_))
  simp only [decide_true, if_true]
  exact Ev.bind alive_ev (Ev.now _)
theorem tells_l1 (a o : List Int) (b : Int) (nm : List Int) (la : a.length ≤ 1000000) (wa : Wf a) (lo : o.length ≤ 1000000) (ho : ∀ x ∈ o, 0 ≤ x) (hlt : ∀ x ∈ o, x < nm.length) (d : Nat) : ∀ i : Nat, i ≤ o.length → o.length - i = d →
    Ev (fun k => hutchlaw32_RenameTells.l1 k a o b nm (o.map (rd nm)) (o.length : Int) (i : Int)) true := by
  induction d with
  | zero => intro i hi hd; exact tells_end a o b nm _ la wa _ _ (by omega)
  | succ d ih =>
    intro i hi hd
    have ha : i < o.length := by omega
    refine Ev.step (fun k => ?_) (ih (i + 1) (by omega) (by omega))
    have h1 : rd o (i : Int) ∈ o := by rw [rd_at o i ha]; exact List.getElem_mem _
    have h2 : rd (o.map (rd nm)) (i : Int) = rd nm (rd o (i : Int)) := by rw [rd_at _ i (by simpa using ha), rd_at o i ha]; simp
    simp only [hutchlaw32_RenameTells.l1]
    rw [if_pos (by omega), if_pos (by omega), if_pos (by rw [List.length_map]; omega), if_pos (by omega), if_pos (ho _ h1), if_pos (hlt _ h1), if_pos h2, w64_succ i (by omega)]
theorem tells_l0 (a o : List Int) (b : Int) (nm : List Int) (la : a.length ≤ 1000000) (wa : Wf a) (lo : o.length ≤ 1000000) (ln : nm.length ≤ 1000000) (ho : ∀ x ∈ o, 0 ≤ x) (d : Nat) : ∀ i : Nat, i ≤ o.length → o.length - i = d →
    Ev (fun k => hutchlaw32_RenameTells.l0 k a o b nm (decide (∀ x ∈ o.take i, x < nm.length)) o (o.length : Int) (i : Int)) true := by
  have ew : IntKind.u64.wrap (nm.length : Int) = (nm.length : Int) := by rw [IntKind.wrap_u64]; omega
  induction d with
  | zero =>
    intro i hi hd
    rw [List.take_of_length_le (by omega)]
    refine Ev.step (fun k => by simp only [hutchlaw32_RenameTells.l0]; rw [if_neg (by omega)]) ?_
    obtain ⟨g1, g2⟩ := named_ev o nm lo ln ho
    by_cases hall : ∀ x ∈ o, x < nm.length
    · refine Ev.bind (g1 hall) ?_
      simp only [decide_eq_true hall, if_true, List.length_map, bne_self_eq_false]
      have := tells_l1 a o b nm la wa lo ho hall _ 0 (by omega) rfl
      refine Ev.step (fun k => ?_) this
      simp only [hutchlaw32_RenameTells.j3, Bool.false_eq_true, if_false, List.length_map]
      rfl
    · refine Ev.bind (g2 hall) ?_
      simp only [decide_eq_false hall, Bool.false_eq_true, if_false, if_true, List.length_nil]
      simp only [show ¬ (((0 : Nat) : Int) > 0) by omega, if_false]
      have := tells_end a o b nm [] la wa 0 0 (by omega)
      refine Ev.step (fun k => ?_) this
      simp only [hutchlaw32_RenameTells.j3, Bool.false_eq_true, if_false, List.length_nil]
      rfl
  | succ d ih =>
    intro i hi hd
    have ha : i < o.length := by omega
    have hn := ih (i + 1) (by omega) (by omega)
    rw [take_succ_rd o i ha] at hn
    refine Ev.step (fun k => ?_) hn
    simp only [hutchlaw32_RenameTells.l0]
    rw [if_pos (by omega), if_pos (by omega), if_pos (by omega), w64_succ i (by omega), ew]
    by_cases hall : ∀ x ∈ o.take i, x < nm.length
    · rw [decide_eq_true hall, if_pos rfl]
      congr 1
      apply decide_eq_decide.2
      constructor
      · intro h x hx
        rcases List.mem_append.1 hx with hx | hx
        · exact hall x hx
        · rw [List.mem_singleton] at hx; rw [hx]; exact h
      · intro h; exact h _ (by simp)
    · rw [decide_eq_false hall, if_neg (by simp)]
      congr 1
      symm
      apply decide_eq_false
      intro h
      exact hall fun x hx => h x (by simp [hx])
theorem rtells_law (a o : List Int) (b : Int) (wa : Wf a) (wo : Wf o) : Ev (fun k => hutchlaw32_RenameTells.f k a o b) true := by
  unfold hutchlaw32_RenameTells.f
  have hal : Ev (fun k => hutchlaw32_RenameTells.j0 k a o b true) true := by
    refine Ev.step (f := fun k => (hutchlaw32_alive.f k).bind fun t => some t) (fun k => ?_) (Ev.bind alive_ev (Ev.now _))
    simp only [hutchlaw32_RenameTells.j0, if_true]
  by_cases h1 : (a.length : Int) > 120
  · simp only [if_pos h1]; exact hal
  · simp only [if_neg h1]
    by_cases h2 : (o.length : Int) > 120
    · simp only [decide_eq_true h2]; exact hal
    · simp only [decide_eq_false h2]
      have la : a.length ≤ 1000000 := by omega
      have lo : o.length ≤ 1000000 := by omega
      have lu : (unlikeOf a).length ≤ 1000000 := Nat.le_trans (unlikeOf_len _ a rfl) la
      refine Ev.step (fun k => by simp only [hutchlaw32_RenameTells.j0]; rw [if_neg (by simp)]) ?_
      refine Ev.bind (Ev.plain (dense_ev la wa)) ?_
      have hnd := (named_ev (denseOf a) (unlikeOf a) (by rw [dense_len]; exact la) lu (fun x hx => (dense_bd a x hx).1)).1 (fun x hx => (dense_bd a x hx).2)
      rw [dense_back] at hnd
      refine Ev.bind hnd (Ev.bind (rdense_ev a la) (Ev.bind (same_ev _ _ (by rw [dense_len]; exact la)) ?_))
      simp only [decide_true, if_true]
      refine Ev.bind (unlike_ev a la) (Ev.bind (same_ev _ _ lu) ?_)
      simp only [decide_true, if_true]
      refine Ev.bind (same_ev _ _ la) ?_
      have := tells_l0 a o b (unlikeOf a) la wa lo lu (fun x hx => (wf_bd (wo x hx)).1) _ 0 (by omega) rfl
      simp only [List.take_zero, List.not_mem_nil, false_implies, implies_true, decide_true] at this
      refine Ev.step (fun k => ?_) this
      simp only [hutchlaw32_RenameTells.j1, decide_true, Bool.not_true, Bool.false_eq_true, if_false]
      rfl
end Go.Proofs.Ytdjbpdahdakfjaa.RenPure
