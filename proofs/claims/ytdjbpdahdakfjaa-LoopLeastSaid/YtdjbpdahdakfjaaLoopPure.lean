/- The plain laws of loops: what the printed functions of hutch/loop and of the document's references compute is the same. -/
import Derived.Test.YtdjbpdahdakfjaaPLoopx5
namespace Go.Proofs.Ytdjbpdahdakfjaa.LoopPure
open Go.RowKit Go.Proofs.Ytdjbpdahdakfjaa.PLoop Go.Proofs.YtdjbpdahdakfjaaW.PrintWords Go.Proofs.YtdjbpdahdakfjaaW.PrintLast

theorem Ev.from {α : Type} {g : Nat → Option α} {r : α} (n : Nat) (h : ∀ k, g (k + n) = some r) : Ev g r :=
  ⟨n, fun k hk => by obtain ⟨m, rfl⟩ : ∃ m, k = m + n := ⟨k - n, by omega⟩; exact h m⟩
theorem Ev.plain {α : Type} {g : Option α} {r : α} (h : g = some r) : Ev (fun _ => g) r := ⟨0, fun _ _ => h⟩

/-- May a config be? -/
def May (p c q g : Int) : Prop := 1 ≤ p ∧ p ≤ 4 ∧ 2 ≤ c ∧ c ≤ 256 ∧ 1 ≤ q ∧ q < c ∧ 0 ≤ g ∧ g ≤ 512
instance (p c q g : Int) : Decidable (May p c q g) := by unfold May; infer_instance
/-- May a loop be? -/
def LMay (s n : Int) : Prop := 1 ≤ s ∧ 1 ≤ n ∧ s ≤ 4096 ∧ n ≤ 4096 / s
instance (s n : Int) : Decidable (LMay s n) := by unfold LMay; infer_instance

theorem check_ev (p c q g : Int) : Ev (fun k => config_Check.f k p c q g) (if May p c q g then 0 else 2) := by
  refine Ev.from 3 fun k => ?_
  unfold May
  by_cases h1 : p < 1
  · simp [config_Check.f, config_Check.j0, h1]; omega
  by_cases h2 : p > 4
  · simp [config_Check.f, config_Check.j0, h1, h2]; omega
  by_cases h3 : c < 2
  · simp [config_Check.f, config_Check.j0, config_Check.j1, h1, h2, h3]; omega
  by_cases h4 : c > 256
  · simp [config_Check.f, config_Check.j0, config_Check.j1, h1, h2, h3, h4]; omega
  by_cases h5 : q < 1
  · simp [config_Check.f, config_Check.j0, config_Check.j1, config_Check.j2, h1, h2, h3, h4, h5]; omega
  by_cases h6 : q ≥ c
  · simp [config_Check.f, config_Check.j0, config_Check.j1, config_Check.j2, h1, h2, h3, h4, h5, h6]; omega
  by_cases h7 : g < 0
  · simp [config_Check.f, config_Check.j0, config_Check.j1, config_Check.j2, h1, h2, h3, h4, h5, h6, h7]; omega
  by_cases h8 : g > 512
  · simp [config_Check.f, config_Check.j0, config_Check.j1, config_Check.j2, h1, h2, h3, h4, h5, h6, h7, h8]; omega
  · simp [config_Check.f, config_Check.j0, config_Check.j1, config_Check.j2, h1, h2, h3, h4, h5, h6, h7, h8]; omega

theorem may_is (p c q g : Int) : hutchref11_May.f p c q g = some (decide (May p c q g)) := by
  unfold hutchref11_May.f May
  repeat' split
  all_goals first | (congr 1; symm; apply decide_eq_false; omega) | (congr 1; apply decide_eq_decide.2; omega)

theorem lmay_is (s n : Int) : loop_may.f s n = some (decide (LMay s n)) := rfl

theorem rmay_is (s n : Int) : hutchref31_May.f s n = some (decide (LMay s n)) := by
  unfold hutchref31_May.f LMay
  by_cases h1 : s ≥ 1
  · rw [if_pos h1]
    by_cases h2 : n ≥ 1
    · rw [if_pos h2]
      by_cases h3 : s ≤ 4096
      · rw [if_pos h3]
        have hd : n ≤ 4096 / s ↔ s * n ≤ 4096 := by
          rw [Int.le_ediv_iff_mul_le (by omega), Int.mul_comm]
        by_cases h4 : n ≤ 4096
        · rw [if_pos h4]
          have h5 : s * n ≤ 4096 * 4096 := Int.mul_le_mul h3 h4 (by omega) (by omega)
          have h6 : 0 ≤ s * n := Int.mul_nonneg (by omega) (by omega)
          have hw : wrap64 (s * n) = s * n := by unfold wrap64; omega
          rw [hw]; congr 1; apply decide_eq_decide.2
          rw [hd]
          exact ⟨fun h => ⟨by omega, by omega, h3, h⟩, fun h => h.2.2.2⟩
        · rw [if_neg h4]; congr 1; symm; apply decide_eq_false
          rw [hd]
          rintro ⟨_, _, _, h⟩
          have : 1 * n ≤ s * n := Int.mul_le_mul (by omega) (Int.le_refl _) (by omega) (by omega)
          omega
      · rw [if_neg h3]; congr 1; symm; apply decide_eq_false; exact fun h => h3 h.2.2.1
    · rw [if_neg h2]; congr 1; symm; apply decide_eq_false; exact fun h => h2 h.2.1
  · rw [if_neg h1]; congr 1; symm; apply decide_eq_false; exact fun h => h1 h.1

/-- The hits of a round that is not the first one. -/
def per (p c q s : Int) : Int := if s ≤ c then s else if p = 1 then c - q else 0
/-- The hits of a loop, and the error's number. -/
def hits (p c q g s n : Int) : Int × Int :=
  if May p c q g then if p = 2 then (0, 5) else if LMay s n then (per p c q s * (n - 1), 0) else (0, 1) else (0, 2)

theorem lmay_bd {s n : Int} (h : LMay s n) : 1 ≤ s ∧ 1 ≤ n ∧ s ≤ 4096 ∧ n ≤ 4096 ∧ s * n ≤ 4096 := by
  obtain ⟨h1, h2, h3, h4⟩ := h
  have hd : s * n ≤ 4096 := by rwa [Int.le_ediv_iff_mul_le (by omega), Int.mul_comm] at h4
  have : 1 * n ≤ s * n := Int.mul_le_mul (by omega) (Int.le_refl _) (by omega) (by omega)
  exact ⟨h1, h2, h3, by omega, hd⟩

theorem per_bd {p c q g s : Int} (hm : May p c q g) (hs : 1 ≤ s) : 0 ≤ per p c q s ∧ per p c q s ≤ s := by
  obtain ⟨h1, h2, h3, h4, h5, h6, h7, h8⟩ := hm
  unfold per; split
  · omega
  · split <;> omega

theorem per_mul_bd {p c q g s n : Int} (hm : May p c q g) (hl : LMay s n) (m : Int) (h0 : 0 ≤ m) (h : m ≤ n) : 0 ≤ per p c q s * m ∧ per p c q s * m ≤ 4096 := by
  obtain ⟨h1, h2, h3, h4, h5⟩ := lmay_bd hl
  obtain ⟨h6, h7⟩ := per_bd hm h1
  have a1 : per p c q s * m ≤ s * n := Int.mul_le_mul h7 h h0 (by omega)
  have a2 : 0 ≤ per p c q s * m := Int.mul_nonneg h6 h0
  omega

theorem room_ev {p c q g : Int} (hm : May p c q g) : Ev (fun k => config_Room.f k p c q g) (c - q) := by
  have h := check_ev p c q g
  rw [if_pos hm] at h
  refine Ev.bind h (Ev.plain ?_)
  obtain ⟨h1, h2, h3, h4, h5, h6, h7, h8⟩ := hm
  have hw : wrap64 (c - q) = c - q := by unfold wrap64; omega
  rw [hw]; rfl

theorem perRound_ev {p c q g : Int} (hm : May p c q g) (s : Int) : Ev (fun k => loop_perRound.f k p c q g s) (per p c q s) := by
  unfold loop_perRound.f per
  by_cases h1 : s ≤ c
  · simp only [if_pos h1]; exact Ev.now _
  · simp only [if_neg h1]
    by_cases h2 : p = 1
    · simp only [if_pos h2]; exact Ev.bind (room_ev hm) (Ev.now _)
    · simp only [if_neg h2]; exact Ev.now _

theorem hits_ev (p c q g s n : Int) : Ev (fun k => loop_Hits.f k p c q g s n) (hits p c q g s n) := by
  unfold loop_Hits.f
  refine Ev.bind (check_ev p c q g) ?_
  unfold hits
  by_cases hm : May p c q g
  · simp only [if_pos hm, if_true]
    by_cases h2 : p = 2
    · simp only [if_pos h2]; exact Ev.now _
    · simp only [if_neg h2]
      refine Ev.bind (Ev.plain (lmay_is s n)) ?_
      by_cases hl : LMay s n
      · simp only [decide_eq_true hl, if_true, if_pos hl]
        refine Ev.bind (perRound_ev hm s) (Ev.plain ?_)
        obtain ⟨b1, b2, b3, b4, b5⟩ := lmay_bd hl
        obtain ⟨b6, b7⟩ := per_mul_bd hm hl (n - 1) (by omega) (by omega)
        have hw1 : wrap64 (n - 1) = n - 1 := by unfold wrap64; omega
        have hw : wrap64 (per p c q s * (n - 1)) = per p c q s * (n - 1) := by unfold wrap64; omega
        rw [hw1, hw]
      · simp only [decide_eq_false hl, if_neg hl, Bool.false_eq_true, if_false]; exact Ev.now _
  · simp only [if_neg hm]; exact Ev.plain (by rfl)

theorem rhits_l0 {p c q g s n : Int} (hm : May p c q g) (hl : LMay s n) (d : Nat) : ∀ i : Int, 1 ≤ i → i ≤ n → n - i = d →
    Ev (fun k => hutchref31_Hits.l0 k s n (per p c q s * (i - 1)) i p c q g) (per p c q s * (n - 1), 0) := by
  obtain ⟨b1, b2, b3, b4, b5⟩ := lmay_bd hl
  induction d with
  | zero =>
    intro i h1 h2 h3
    obtain rfl : i = n := by omega
    refine Ev.from 1 fun k => ?_
    simp only [hutchref31_Hits.l0]; rw [if_neg (by omega)]
  | succ d ih =>
    intro i h1 h2 h3
    have hi := ih (i + 1) (by omega) (by omega) (by omega)
    have e1 : wrap64 (i + 1) = i + 1 := by unfold wrap64; omega
    have e2 : per p c q s * (i + 1 - 1) = per p c q s * (i - 1) + per p c q s := by rw [show i + 1 - 1 = (i - 1) + 1 by omega, Int.mul_add, Int.mul_one]
    rw [e2] at hi
    obtain ⟨c1, c2⟩ := per_mul_bd hm hl (i - 1) (by omega) (by omega)
    have c3 := per_mul_bd hm hl i (by omega) (by omega)
    refine Ev.step (fun k => ?_) hi
    simp only [hutchref31_Hits.l0]
    rw [if_pos (by omega), e1]
    have hb := per_bd hm b1
    have hm' := hm
    obtain ⟨h1', h2', h3', h4', h5', h6', h7', h8'⟩ := hm'
    by_cases h4 : s ≤ c
    · rw [if_pos h4]
      have e3 : per p c q s = s := if_pos h4
      have e4 : wrap64 (per p c q s * (i - 1) + s) = per p c q s * (i - 1) + per p c q s := by rw [e3] at c1 c2 ⊢; unfold wrap64; omega
      rw [e4]
    · rw [if_neg h4]
      by_cases h5 : p = 1
      · rw [if_pos h5]
        have e3 : per p c q s = c - q := by unfold per; rw [if_neg h4, if_pos h5]
        have e4 : wrap64 ((wrap64 (per p c q s * (i - 1) + c)) - q) = per p c q s * (i - 1) + per p c q s := by
          rw [e3] at c1 c2 ⊢
          have e5 : wrap64 ((c - q) * (i - 1) + c) = (c - q) * (i - 1) + c := by unfold wrap64; omega
          rw [e5]; unfold wrap64; omega
        rw [e4]
      · rw [if_neg h5]
        have e3 : per p c q s = 0 := by unfold per; rw [if_neg h4, if_neg h5]
        rw [e3]; simp

theorem rhits_ev (p c q g s n : Int) : Ev (fun k => hutchref31_Hits.f k p c q g s n) (hits p c q g s n) := by
  unfold hutchref31_Hits.f
  refine Ev.bind (Ev.plain (may_is p c q g)) ?_
  unfold hits
  by_cases hm : May p c q g
  · simp only [decide_eq_true hm, if_pos hm, if_true]
    by_cases h2 : p = 2
    · simp only [if_pos h2]; exact Ev.now _
    · simp only [if_neg h2]
      refine Ev.bind (Ev.plain (rmay_is s n)) ?_
      by_cases hl : LMay s n
      · simp only [decide_eq_true hl, if_true, if_pos hl]
        have := rhits_l0 hm hl (n - 1).toNat 1 (by omega) (lmay_bd hl).2.1 (by have := (lmay_bd hl).2.1; omega)
        simpa using this
      · simp only [decide_eq_false hl, if_neg hl, Bool.false_eq_true, if_false]; exact Ev.now _
  · simp only [decide_eq_false hm, if_neg hm, Bool.false_eq_true, if_false]; exact Ev.now _

theorem alive_ev : Ev (fun k => hutchlaw31_alive.f k) true := Ev.of hutchlaw31_alive.mono (k := 20) (by decide +kernel)

/-! The least config. -/
/-- Does a config of a Cap have so many? -/
def good (p s n h c : Int) : Prop := (hits p c 1 0 s n).2 = 0 ∧ (hits p c 1 0 s n).1 ≥ h
instance (p s n h c : Int) : Decidable (good p s n h c) := by unfold good; infer_instance

theorem least_l0 (p s n h : Int) (d : Nat) : ∀ c : Int, 2 ≤ c → 257 - c = d →
    (∃ m, c ≤ m ∧ m ≤ 256 ∧ good p s n h m ∧ (∀ x, c ≤ x → x < m → ¬ good p s n h x) ∧ Ev (fun k => loop_Least.l0 k p s n h c) (p, m, 1, 0, true)) ∨
    ((∀ x, c ≤ x → x ≤ 256 → ¬ good p s n h x) ∧ Ev (fun k => loop_Least.l0 k p s n h c) (0, 0, 0, 0, false)) := by
  induction d with
  | zero =>
    intro c h1 h2
    refine .inr ⟨fun x _ _ => by omega, Ev.from 1 fun k => ?_⟩
    simp only [loop_Least.l0]; rw [if_neg (by omega)]
  | succ d ih =>
    intro c h1 h2
    have e1 : wrap64 (c + 1) = c + 1 := by unfold wrap64; omega
    have hr : ∀ r, (good p s n h c → r = (p, c, 1, 0, true)) → (¬ good p s n h c → Ev (fun k => loop_Least.l0 k p s n h (c + 1)) r) → Ev (fun k => loop_Least.l0 k p s n h c) r := by
      intro r g1 g2
      refine Ev.step (f := fun k => (loop_Hits.f k p c 1 0 s n).bind fun bt162 => (if bt162.2 = 0 then (if bt162.1 ≥ h then (some (p, c, 1, 0, true)) else (loop_Least.l0 k p s n h (wrap64 (c + 1)))) else (loop_Least.l0 k p s n h (wrap64 (c + 1))))) (fun k => ?_) (Ev.bind (hits_ev p c 1 0 s n) ?_)
      · simp only [loop_Least.l0]; rw [if_pos (by omega)]
      · rw [e1]
        by_cases ha : (hits p c 1 0 s n).2 = 0
        · simp only [if_pos ha]
          by_cases hb : (hits p c 1 0 s n).1 ≥ h
          · simp only [if_pos hb]; rw [g1 ⟨ha, hb⟩]; exact Ev.now _
          · simp only [if_neg hb]; exact g2 fun hg => hb hg.2
        · simp only [if_neg ha]; exact g2 fun hg => ha hg.1
    by_cases hg : good p s n h c
    · exact .inl ⟨c, Int.le_refl _, by omega, hg, fun x h3 h4 => by omega, hr _ (fun _ => rfl) (fun hn => absurd hg hn)⟩
    · rcases ih (c + 1) (by omega) (by omega) with ⟨m, m1, m2, m3, m4, m5⟩ | ⟨m1, m2⟩
      · refine .inl ⟨m, by omega, m2, m3, fun x h3 h4 => ?_, hr _ (fun h => absurd h hg) (fun _ => m5)⟩
        by_cases hx : x = c
        · rw [hx]; exact hg
        · exact m4 x (by omega) h4
      · refine .inr ⟨fun x h3 h4 => ?_, hr _ (fun h => absurd h hg) (fun _ => m2)⟩
        by_cases hx : x = c
        · rw [hx]; exact hg
        · exact m1 x (by omega) h4

theorem law_l0 (p s n h : Int) (b : Bool) (x0 x1 x2 x3 : Int) (r : Bool) (L : Int)
    (hfin : ∀ l, (l = L) → Ev (fun k => hutchlaw31_LoopLeast.l0 k p s n h b l 1 x0 x1 x2 x3) r) (d : Nat) :
    ∀ c l : Int, 1 ≤ c → c ≤ 256 → c - 1 = d → ((∀ x, 2 ≤ x → x ≤ c → ¬ good p s n h x) → l = L) →
      ((∃ x, 2 ≤ x ∧ x ≤ c ∧ good p s n h x) → 2 ≤ L ∧ L ≤ c ∧ good p s n h L ∧ ∀ x, 2 ≤ x → x < L → ¬ good p s n h x) →
      Ev (fun k => hutchlaw31_LoopLeast.l0 k p s n h b l c x0 x1 x2 x3) r := by
  induction d with
  | zero =>
    intro c l h1 h2 h3 h4 h5
    obtain rfl : c = 1 := by omega
    exact hfin l (h4 fun x _ _ => by omega)
  | succ d ih =>
    intro c l h1 h2 h3 h4 h5
    have e1 : wrap64 (c - 1) = c - 1 := by unfold wrap64; omega
    have hr : (good p s n h c → Ev (fun k => hutchlaw31_LoopLeast.l0 k p s n h b c (c - 1) x0 x1 x2 x3) r) → (¬ good p s n h c → Ev (fun k => hutchlaw31_LoopLeast.l0 k p s n h b l (c - 1) x0 x1 x2 x3) r) → Ev (fun k => hutchlaw31_LoopLeast.l0 k p s n h b l c x0 x1 x2 x3) r := by
      intro g1 g2
      refine Ev.step (f := fun k => (hutchref31_Hits.f k p c 1 0 s n).bind fun bt170 => (if bt170.2 = 0 then (if bt170.1 ≥ h then (hutchlaw31_LoopLeast.l0 k p s n h b c (wrap64 (c - 1)) x0 x1 x2 x3) else (hutchlaw31_LoopLeast.l0 k p s n h b l (wrap64 (c - 1)) x0 x1 x2 x3)) else (hutchlaw31_LoopLeast.l0 k p s n h b l (wrap64 (c - 1)) x0 x1 x2 x3))) (fun k => ?_) (Ev.bind (rhits_ev p c 1 0 s n) ?_)
      · simp only [hutchlaw31_LoopLeast.l0]; rw [if_pos (by omega)]
      · rw [e1]
        by_cases ha : (hits p c 1 0 s n).2 = 0
        · simp only [if_pos ha]
          by_cases hb : (hits p c 1 0 s n).1 ≥ h
          · simp only [if_pos hb]; exact g1 ⟨ha, hb⟩
          · simp only [if_neg hb]; exact g2 fun hg => hb hg.2
        · simp only [if_neg ha]; exact g2 fun hg => ha hg.1
    refine hr (fun hg => ?_) (fun hg => ?_)
    · obtain ⟨k1, k2, k3, k4⟩ := h5 ⟨c, by omega, Int.le_refl _, hg⟩
      refine ih (c - 1) c (by omega) (by omega) (by omega) (fun hn => ?_) (fun ⟨x, y1, y2, y3⟩ => ⟨k1, ?_, k3, k4⟩)
      · by_cases hl : L = c
        · exact hl.symm
        · exact absurd k3 (hn L k1 (by omega))
      · have : ¬ x < L := fun hx => k4 x y1 hx y3
        omega
    · refine ih (c - 1) l (by omega) (by omega) (by omega) (fun hn => h4 fun x y1 y2 => ?_) (fun ⟨x, y1, y2, y3⟩ => ?_)
      · by_cases hx : x = c
        · rw [hx]; exact hg
        · exact hn x y1 (by omega)
      · obtain ⟨k1, k2, k3, k4⟩ := h5 ⟨x, y1, by omega, y3⟩
        refine ⟨k1, ?_, k3, k4⟩
        by_cases hl : L = c
        · rw [hl] at k3; exact absurd k3 hg
        · omega

theorem least_law (p s n h : Int) : Ev (fun k => hutchlaw31_LoopLeast.f k p s n h) true := by
  unfold hutchlaw31_LoopLeast.f loop_Least.f
  rcases least_l0 p s n h 255 2 (by omega) (by omega) with ⟨m, m1, m2, m3, m4, m5⟩ | ⟨m1, m2⟩
  · refine Ev.bind m5 ?_
    refine law_l0 p s n h true p m 1 0 true m ?_ 255 256 0 (by omega) (by omega) (by omega) (fun hn => absurd m3 (hn m m1 m2)) (fun _ => ⟨m1, m2, m3, m4⟩)
    rintro l rfl
    refine Ev.step (f := fun k => (hutchlaw31_alive.f k).bind fun t => some t) (fun k => ?_) (Ev.bind alive_ev (Ev.now _))
    simp only [hutchlaw31_LoopLeast.l0]
    rw [if_neg (by omega), if_neg (by omega), if_pos trivial, if_pos (by simp)]
  · refine Ev.bind m2 ?_
    refine law_l0 p s n h false 0 0 0 0 true 0 ?_ 255 256 0 (by omega) (by omega) (by omega) (fun _ => rfl) (fun ⟨x, y1, y2, y3⟩ => absurd y3 (m1 x y1 y2))
    rintro l rfl
    refine Ev.step (f := fun k => (hutchlaw31_alive.f k).bind fun t => some t) (fun k => ?_) (Ev.bind alive_ev (Ev.now _))
    simp only [hutchlaw31_LoopLeast.l0]
    rw [if_neg (by omega), if_pos trivial, if_neg (by simp), if_pos (by simp)]

/-! The loop itself. -/
/-- 0, 1, .. below n. -/
def ups (n : Nat) : List Int := (List.range n).map Int.ofNat
theorem ups_length (n : Nat) : (ups n).length = n := by simp [ups]
theorem ups_succ (n : Nat) : ups (n + 1) = ups n ++ [(n : Int)] := by simp [ups, List.range_succ]

theorem trace_Loop_ev (l : List Int) (n : Int) (h1 : 0 < l.length) (h2 : l.length ≤ 4096) (h3 : 1 ≤ n) (h4 : n ≤ 4096 / (l.length : Int)) :
    Ev (fun k => trace_Loop.f k l n) ((List.replicate n.toNat l).flatten, 0) := by
  have h5 : (4096 : Int) / l.length ≤ 4096 := Int.ediv_le_self _ (by omega)
  refine Ev.from 1 fun k => ?_
  simp only [trace_Loop.f, trace_Loop.j0]
  rw [if_neg (by omega), if_neg (by simp; omega), if_neg (by omega), if_neg (by omega)]
  unfold slices_Repeat_uint64_uint64.f
  rw [if_pos ⟨h3, by omega, h1, h2⟩]
  rfl

theorem loop_Trace_l0 (s : Nat) (n : Int) (h1 : 1 ≤ s) (h2 : s ≤ 4096) (h3 : 1 ≤ n) (h4 : n ≤ 4096 / (s : Int)) (d : Nat) : ∀ i : Nat, i ≤ s → s - i = d →
    Ev (fun k => loop_Trace.l0 k n (ups i) (s : Int) (i : Int)) ((List.replicate n.toNat (ups s)).flatten, 0) := by
  induction d with
  | zero =>
    intro i hi hd
    obtain rfl : i = s := by omega
    have h := trace_Loop_ev (ups i) n (by rw [ups_length]; omega) (by rw [ups_length]; omega) h3 (by rw [ups_length]; exact h4)
    refine Ev.step (f := fun k => (trace_Loop.f k (ups i) n).bind fun bt => some (bt.1, bt.2)) (fun k => ?_) (Ev.bind h (Ev.now _))
    simp only [loop_Trace.l0]; rw [if_neg (by omega)]
  | succ d ih =>
    intro i hi hd
    have h := ih (i + 1) (by omega) (by omega)
    rw [ups_succ] at h
    refine Ev.step (fun k => ?_) h
    have e : IntKind.u64.wrap ((i : Int) + 1) = ((i + 1 : Nat) : Int) := by rw [IntKind.wrap_u64]; omega
    simp only [loop_Trace.l0]; rw [if_pos (by omega), if_pos (by rw [ups_length]; omega), e]

theorem loop_Trace_ev (s n : Int) : Ev (fun k => loop_Trace.f k s n) (if LMay s n then ((List.replicate n.toNat (ups s.toNat)).flatten, 0) else ([], 1)) := by
  unfold loop_Trace.f
  refine Ev.bind (Ev.plain (lmay_is s n)) ?_
  by_cases hl : LMay s n
  · simp only [decide_eq_true hl, if_true, if_pos hl]
    obtain ⟨h1, h2, h3, h4⟩ := hl
    obtain ⟨m, rfl⟩ := Int.eq_ofNat_of_zero_le (show 0 ≤ s by omega)
    have e : IntKind.u64.wrap (m : Int) = (m : Int) := by rw [IntKind.wrap_u64]; omega
    rw [e]
    have := loop_Trace_l0 m n (by omega) (by omega) h2 h4 m 0 (by omega) (by omega)
    simpa [ups] using this
  · simp only [decide_eq_false hl, if_neg hl, Bool.false_eq_true, if_false]; exact Ev.now _

theorem flat_succ (n : Nat) (l : List Int) : (List.replicate (n + 1) l).flatten = (List.replicate n l).flatten ++ l := by
  rw [List.replicate_succ', List.flatten_append]; simp

theorem ref_Trace_l1 (s n : Nat) (hb : s * n ≤ 4096) (i : Nat) (hi : i < n) (hs : s ≤ 4096) (r : List Int)
    (hk : Ev (fun k => hutchref31_Trace.l0 k s n ((List.replicate (i + 1) (ups s)).flatten) ((i + 1 : Nat) : Int)) r) (hn : n ≤ 4096) (d : Nat) : ∀ j : Nat, j ≤ s → s - j = d →
    Ev (fun k => hutchref31_Trace.l1 k s n ((List.replicate i (ups s)).flatten ++ ups j) (i : Int) (j : Int)) r := by
  induction d with
  | zero =>
    intro j hj hd
    obtain rfl : j = s := by omega
    refine Ev.step (fun k => ?_) hk
    have e : wrap64 ((i : Int) + 1) = ((i + 1 : Nat) : Int) := by unfold wrap64; omega
    simp only [hutchref31_Trace.l1]; rw [if_neg (by omega), flat_succ, e]
  | succ d ih =>
    intro j hj hd
    have h := ih (j + 1) (by omega) (by omega)
    rw [ups_succ, ← List.append_assoc] at h
    refine Ev.step (fun k => ?_) h
    have e : wrap64 ((j : Int) + 1) = ((j + 1 : Nat) : Int) := by unfold wrap64; omega
    have e2 : IntKind.u64.wrap (j : Int) = (j : Int) := by rw [IntKind.wrap_u64]; omega
    have hl : i * s ≤ 4096 := by
      have : i * s ≤ n * s := Nat.mul_le_mul_right _ (by omega)
      rw [Nat.mul_comm n s] at this; omega
    simp only [hutchref31_Trace.l1]; rw [if_pos (by omega), if_pos (by simp [ups_length]; omega), e, e2]

theorem ref_Trace_l0 (s n : Nat) (hb : s * n ≤ 4096) (hs : s ≤ 4096) (hn : n ≤ 4096) (d : Nat) : ∀ i : Nat, i ≤ n → n - i = d →
    Ev (fun k => hutchref31_Trace.l0 k s n ((List.replicate i (ups s)).flatten) (i : Int)) ((List.replicate n (ups s)).flatten) := by
  induction d with
  | zero =>
    intro i hi hd
    obtain rfl : i = n := by omega
    refine Ev.from 1 fun k => ?_
    simp only [hutchref31_Trace.l0]; rw [if_neg (by omega)]
  | succ d ih =>
    intro i hi hd
    have h := ref_Trace_l1 s n hb i (by omega) hs _ (ih (i + 1) (by omega) (by omega)) hn s 0 (by omega) (by omega)
    refine Ev.step (fun k => ?_) h
    simp only [hutchref31_Trace.l0]; rw [if_pos (by omega)]
    simp [ups]

theorem ref_Trace_ev {s n : Int} (hl : LMay s n) : Ev (fun k => hutchref31_Trace.f k s n) ((List.replicate n.toNat (ups s.toNat)).flatten) := by
  obtain ⟨b1, b2, b3, b4, b5⟩ := lmay_bd hl
  obtain ⟨a, rfl⟩ := Int.eq_ofNat_of_zero_le (show 0 ≤ s by omega)
  obtain ⟨b, rfl⟩ := Int.eq_ofNat_of_zero_le (show 0 ≤ n by omega)
  rw [← Int.natCast_mul] at b5
  exact ref_Trace_l0 a b (by omega) (by omega) (by omega) b 0 (by omega) (by omega)

theorem same_l0 (l : List Int) (hl : l.length ≤ 1000000) (d : Nat) : ∀ i : Nat, i ≤ l.length → l.length - i = d → Ev (fun k => hutchref06_Same.l0 k l l (i : Int)) true := by
  induction d with
  | zero =>
    intro i hi hd
    refine Ev.from 1 fun k => ?_
    simp only [hutchref06_Same.l0]; rw [if_neg (by omega)]
  | succ d ih =>
    intro i hi hd
    refine Ev.step (fun k => ?_) (ih (i + 1) (by omega) (by omega))
    have e : wrap64 ((i : Int) + 1) = ((i + 1 : Nat) : Int) := by unfold wrap64; omega
    simp only [hutchref06_Same.l0]; rw [if_pos (by omega), if_pos (by omega), if_pos (by omega), if_pos trivial, e]

theorem same_ev (l : List Int) (hl : l.length ≤ 1000000) : Ev (fun k => hutchref06_Same.f k l l) true := by
  unfold hutchref06_Same.f
  simp only [if_true]
  exact same_l0 l hl l.length 0 (by omega) (by omega)

theorem tells_law (p c q g s n : Int) : Ev (fun k => hutchlaw31_LoopTells.f k p c q g s n) true := by
  unfold hutchlaw31_LoopTells.f
  refine Ev.bind (loop_Trace_ev s n) (Ev.bind (hits_ev p c q g s n) (Ev.bind (rhits_ev p c q g s n) ?_))
  simp only [if_true, bne_self_eq_false]
  refine Ev.step (fun k => by simp only [hutchlaw31_LoopTells.j0]; rw [if_neg (by simp)]) (Ev.bind (Ev.plain (rmay_is s n)) ?_)
  by_cases hl : LMay s n
  · simp only [decide_eq_true hl, if_true, if_pos hl]
    obtain ⟨b1, b2, b3, b4, b5⟩ := lmay_bd hl
    obtain ⟨a, rfl⟩ := Int.eq_ofNat_of_zero_le (show 0 ≤ s by omega)
    obtain ⟨b, rfl⟩ := Int.eq_ofNat_of_zero_le (show 0 ≤ n by omega)
    refine Ev.bind (ref_Trace_ev hl) (Ev.bind (same_ev _ ?_) ?_)
    · rw [← Int.natCast_mul] at b5
      have : (a : Nat) * b ≤ 4096 := by omega
      simp [ups_length]
      rw [Nat.mul_comm]; omega
    · simp only [if_true]
      exact Ev.bind alive_ev (Ev.now _)
  · simp only [decide_eq_false hl, if_neg hl, Bool.false_eq_true, if_false, List.length_nil, Int.natCast_zero, if_true]
    exact Ev.bind alive_ev (Ev.now _)

end Go.Proofs.Ytdjbpdahdakfjaa.LoopPure
