/- The plain laws of the best run: the document's most is the most that can be; a least recently used cache hits no more often. -/
import Derived.Test.YtdjbpdahdakfjaaPBestx6
import Derived.Test.YtdjbpdahdakfjaaBestPure
namespace Go.Proofs.Ytdjbpdahdakfjaa.BestPure
open Go.RowKit Go.Proofs.YtdjbpdahdakfjaaH Go.Proofs.Ytdjbpdahdakfjaa.PBest Go.Proofs.YtdjbpdahdakfjaaW.PrintWords Go.Proofs.YtdjbpdahdakfjaaW.PrintLast Go.Proofs.YtdjbpdahdakfjaaW

theorem Ev.from {α : Type} {g : Nat → Option α} {r : α} (n : Nat) (h : ∀ k, g (k + n) = some r) : Ev g r :=
  ⟨n, fun k hk => by obtain ⟨m, rfl⟩ : ∃ m, k = m + n := ⟨k - n, by omega⟩; exact h m⟩
theorem Ev.plain {α : Type} {g : Option α} {r : α} (h : g = some r) : Ev (fun _ => g) r := ⟨0, fun _ _ => h⟩
theorem w64_succ (i : Nat) (h : i ≤ 1000000) : wrap64 ((i : Int) + 1) = ((i + 1 : Nat) : Int) := by unfold wrap64; omega
theorem alive_ev : Ev (fun k => hutchlaw27_alive.f k) true := Ev.of hutchlaw27_alive.mono (k := 20) (by decide +kernel)

/-! The document's words. -/
theorem has_l0 (l : List Int) (x : Int) (hb : l.length ≤ 1000000) (d : Nat) : ∀ i : Nat, i ≤ l.length → l.length - i = d → Ev (fun k => hutchref12_Has.l0 k l x (i : Int)) (decide (x ∈ l.drop i)) := by
  induction d with
  | zero =>
    intro i hi hd
    refine Ev.from 1 fun k => ?_
    simp only [hutchref12_Has.l0]
    rw [if_neg (by omega), List.drop_of_length_le (by omega)]
    simp
  | succ d ih =>
    intro i hi hd
    have ha : i < l.length := by omega
    rw [List.drop_eq_getElem_cons ha]
    have step : ∀ k, hutchref12_Has.l0 (k + 1) l x (i : Int) = if l[i] = x then some true else hutchref12_Has.l0 k l x ((i + 1 : Nat) : Int) := by
      intro k
      simp only [hutchref12_Has.l0]
      rw [if_pos (by omega), if_pos (by omega), rd_at l i ha, w64_succ i (by omega)]
    by_cases e : l[i] = x
    · refine Ev.from 1 fun k => ?_
      rw [step, if_pos e, decide_eq_true (List.mem_cons.2 (.inl e.symm))]
    · refine Ev.step (fun k => by rw [step, if_neg e]) ?_
      have : (x ∈ l[i] :: l.drop (i + 1)) ↔ x ∈ l.drop (i + 1) := by
        rw [List.mem_cons]
        exact ⟨fun h => h.resolve_left (fun h => e h.symm), .inr⟩
      rw [decide_eq_decide.2 this]
      exact ih (i + 1) (by omega) (by omega)
theorem has_ev (l : List Int) (x : Int) (hb : l.length ≤ 1000000) : Ev (fun k => hutchref12_Has.f k l x) (decide (x ∈ l)) := by
  have := has_l0 l x hb _ 0 (by omega) rfl
  simpa [hutchref12_Has.f] using this
theorem less_l0 (l : List Int) (x : Int) (hb : l.length ≤ 1000000) (d : Nat) : ∀ i : Nat, i ≤ l.length → l.length - i = d → Ev (fun k => hutchref12_Less.l0 k l x ((l.take i).filter (· != x)) (i : Int)) (l.filter (· != x)) := by
  induction d with
  | zero =>
    intro i hi hd
    refine Ev.from 1 fun k => ?_
    simp only [hutchref12_Less.l0]
    rw [if_neg (by omega), List.take_of_length_le (by omega)]
  | succ d ih =>
    intro i hi hd
    have ha : i < l.length := by omega
    have hn := ih (i + 1) (by omega) (by omega)
    rw [List.take_succ_eq_append_getElem ha, List.filter_append] at hn
    refine Ev.step (fun k => ?_) hn
    have hlen : ((l.take i).filter (· != x)).length ≤ 1000000 := by
      have := List.length_filter_le (· != x) (l.take i)
      rw [List.length_take] at this
      omega
    simp only [hutchref12_Less.l0]
    rw [if_pos (by omega), if_pos (by omega), rd_at l i ha, w64_succ i (by omega), if_pos (show ((l.take i).filter (· != x)).length < 17592186044416 by omega)]
    by_cases e : l[i] = x
    · rw [if_pos e, e]; simp
    · rw [if_neg e]; simp [e]
theorem less_ev (l : List Int) (x : Int) (hb : l.length ≤ 1000000) (hd : l.Nodup) : Ev (fun k => hutchref12_Less.f k l x) (l.erase x) := by
  have := less_l0 l x hb _ 0 (by omega) rfl
  rw [List.Nodup.erase_eq_filter hd]
  simpa [hutchref12_Less.f] using this
theorem more_is (l : List Int) (x : Int) (hb : l.length ≤ 1000000) : hutchref12_More.f l x = some (l ++ [x]) := by
  unfold hutchref12_More.f
  rw [Option.bind_some, if_pos (by simp; omega), Option.bind_some, if_pos (by simp; omega)]
  simp

/-! The most that can be. -/
/-- A number is the most that can be. -/
def Top (n : Nat) (t K : List Int) (m : Nat) : Prop := Play n t K m ∧ ∀ h, Play n t K h → h ≤ m
theorem play_le {n : Nat} {t K : List Int} {h : Nat} (hp : Play n t K h) : h ≤ t.length := by
  induction hp with
  | nil => exact Nat.le_refl _
  | hit _ _ ih => simp; omega
  | put _ _ _ ih => simp; omega
  | evict _ _ _ _ ih => simp; omega
theorem most_loop (n : Nat) (x : Int) (t K : List Int) (hK : K.Nodup) (hl : K.length = n) (hn : 1 ≤ n) (hx : x ∉ K) (hb : n ≤ 1000) (ht : t.length ≤ 1000)
    (ih : ∀ K' : List Int, K'.Nodup → K'.length ≤ n → ∃ m : Nat, Ev (fun k => hutchref27_Most.f k t K' (n : Int)) (m : Int) ∧ Top n t K' m) (d : Nat) :
    ∀ (j best : Nat), j ≤ K.length → K.length - j = d → (∀ i, i < j → (hi : i < K.length) → ∀ h, Play n t (K.erase K[i] ++ [x]) h → h ≤ best) → ((j = 0 ∧ best = 0) ∨ Play n (x :: t) K best) →
      ∃ m : Nat, Ev (fun k => hutchref27_Most.l0 k (x :: t) K (n : Int) (best : Int) (j : Int)) (m : Int) ∧ Top n (x :: t) K m := by
  induction d with
  | zero =>
    intro j best hj hd h1 h2
    refine ⟨best, Ev.from 1 fun k => ?_, h2.resolve_left (fun h => by omega), fun h hp => ?_⟩
    · simp only [hutchref27_Most.l0]
      rw [if_neg (by omega)]
    · cases hp with
      | hit hx' _ => exact absurd hx' hx
      | put _ hl' _ => omega
      | evict _ _ hv hp =>
        obtain ⟨i, hi, rfl⟩ := List.getElem_of_mem hv
        exact h1 i (by omega) hi h hp
  | succ d ihd =>
    intro j best hj hd h1 h2
    have hjl : j < K.length := by omega
    obtain ⟨m, hm, hp, htop⟩ := ih (K.erase K[j] ++ [x]) (nodup_evict hK hx) (by rw [len_evict (List.getElem_mem _)]; omega)
    have hpx : Play n (x :: t) K m := .evict hx hl (List.getElem_mem _) hp
    have key : ∀ b' : Nat, best ≤ b' → m ≤ b' → (b' = best ∨ b' = m) → ∃ M : Nat, Ev (fun k => hutchref27_Most.l0 k (x :: t) K (n : Int) (b' : Int) ((j + 1 : Nat) : Int)) (M : Int) ∧ Top n (x :: t) K M := by
      intro b' hb1 hb2 hor
      refine ihd (j + 1) b' (by omega) (by omega) (fun i hi hil h hp' => ?_) (.inr ?_)
      · by_cases hij : i = j
        · subst hij; exact Nat.le_trans (htop h hp') hb2
        · exact Nat.le_trans (h1 i (by omega) hil h hp') hb1
      · rcases hor with rfl | rfl
        · rcases h2 with ⟨_, h0⟩ | h2
          · have : m = b' := by omega
            rw [← this]; exact hpx
          · exact h2
        · exact hpx
    have hbody : ∀ r : Int, Ev (fun k => if (m : Int) > (best : Int) then hutchref27_Most.l0 k (x :: t) K (n : Int) (m : Int) ((j + 1 : Nat) : Int) else hutchref27_Most.l0 k (x :: t) K (n : Int) (best : Int) ((j + 1 : Nat) : Int)) r →
        Ev (fun k => hutchref27_Most.l0 k (x :: t) K (n : Int) (best : Int) (j : Int)) r := by
      intro r hr
      refine Ev.step (f := fun k => (hutchref12_Less.f k K K[j]).bind fun t187 => ((hutchref12_More.f t187 x).bind fun t191 => ((hutchref27_Most.f k t t191 (n : Int)).bind fun t194 => if t194 > (best : Int) then hutchref27_Most.l0 k (x :: t) K (n : Int) t194 ((j + 1 : Nat) : Int) else hutchref27_Most.l0 k (x :: t) K (n : Int) (best : Int) ((j + 1 : Nat) : Int)))) (fun k => ?_) ?_
      · simp only [hutchref27_Most.l0]
        rw [if_pos (by omega), if_pos (by rw [List.length_cons]; omega), if_pos (by omega), rd_at K j hjl, w64_succ j (by omega)]
        simp only [show (0 : Int) < ((x :: t).length : Int) by rw [List.length_cons]; omega, if_true, show rd (x :: t) 0 = x from rfl, List.drop_one, List.tail_cons]
      · refine Ev.bind (less_ev K K[j] (by omega) hK) (Ev.bind (Ev.plain (more_is _ x ?_)) (Ev.bind hm hr))
        have := List.length_erase_le (a := K[j]) (l := K)
        omega
    by_cases hgt : (m : Int) > (best : Int)
    · obtain ⟨M, hM, hT⟩ := key m (by omega) (Nat.le_refl _) (.inr rfl)
      exact ⟨M, hbody _ (by simp only [if_pos hgt]; exact hM), hT⟩
    · obtain ⟨M, hM, hT⟩ := key best (Nat.le_refl _) (by omega) (.inl rfl)
      exact ⟨M, hbody _ (by simp only [if_neg hgt]; exact hM), hT⟩
theorem most_ev (n : Nat) (hn : 1 ≤ n) (hb : n ≤ 1000) : ∀ (t : List Int), t.length ≤ 1000 → ∀ K : List Int, K.Nodup → K.length ≤ n → ∃ m : Nat, Ev (fun k => hutchref27_Most.f k t K (n : Int)) (m : Int) ∧ Top n t K m := by
  intro t
  induction t with
  | nil =>
    intro _ K _ _
    refine ⟨0, Ev.from 1 fun k => ?_, .nil _, fun h hp => ?_⟩
    · simp only [hutchref27_Most.f]; rfl
    · cases hp; exact Nat.le_refl _
  | cons x t ih =>
    intro ht K hK hl
    have ht' : t.length ≤ 1000 := by simp at ht; omega
    have hlen0 : ¬ (((x :: t).length : Int) = 0) := by rw [List.length_cons]; omega
    have hlen1 : (0 : Int) < ((x :: t).length : Int) := by rw [List.length_cons]; omega
    have hlen2 : (1 : Int) ≤ ((x :: t).length : Int) := by rw [List.length_cons]; omega
    have hrd : rd (x :: t) 0 = x := rfl
    by_cases hx : x ∈ K
    · obtain ⟨m, hm, hp, htop⟩ := ih ht' K hK hl
      have hml := play_le hp
      refine ⟨m + 1, ?_, .hit hx hp, fun h hp' => ?_⟩
      · refine Ev.step (f := fun k => (hutchref12_Has.f k K x).bind fun t176 => if t176 = true then ((hutchref27_Most.f k t K (n : Int)).bind fun t178 => some (wrap64 (1 + t178))) else if (K.length : Int) < (n : Int) then ((hutchref12_More.f K x).bind fun t181 => ((hutchref27_Most.f k t t181 (n : Int)).bind fun t184 => some t184)) else hutchref27_Most.l0 k (x :: t) K (n : Int) 0 0) (fun k => ?_) ?_
        · simp only [hutchref27_Most.f]
          rw [if_neg hlen0, if_pos hlen1, hrd]
          simp only [if_pos hlen2, List.drop_one, List.tail_cons]
        · refine Ev.bind (has_ev K x (by omega)) ?_
          simp only [decide_eq_true hx, if_true]
          refine Ev.bind hm (Ev.plain ?_)
          congr 1
          unfold wrap64; omega
      · cases hp' with
        | hit _ hp' => have := htop _ hp'; omega
        | put hx' _ _ => exact absurd hx hx'
        | evict hx' _ _ _ => exact absurd hx hx'
    · have hstep : ∀ r : Int, Ev (fun k => if (K.length : Int) < (n : Int) then ((hutchref12_More.f K x).bind fun t181 => ((hutchref27_Most.f k t t181 (n : Int)).bind fun t184 => some t184)) else hutchref27_Most.l0 k (x :: t) K (n : Int) 0 0) r → Ev (fun k => hutchref27_Most.f k (x :: t) K (n : Int)) r := by
        intro r hr
        refine Ev.step (f := fun k => (hutchref12_Has.f k K x).bind fun t176 => if t176 = true then ((hutchref27_Most.f k t K (n : Int)).bind fun t178 => some (wrap64 (1 + t178))) else if (K.length : Int) < (n : Int) then ((hutchref12_More.f K x).bind fun t181 => ((hutchref27_Most.f k t t181 (n : Int)).bind fun t184 => some t184)) else hutchref27_Most.l0 k (x :: t) K (n : Int) 0 0) (fun k => ?_) ?_
        · simp only [hutchref27_Most.f]
          rw [if_neg hlen0, if_pos hlen1, hrd]
          simp only [if_pos hlen2, List.drop_one, List.tail_cons]
        · refine Ev.bind (has_ev K x (by omega)) ?_
          simp only [decide_eq_false hx, Bool.false_eq_true, if_false]
          exact hr
      by_cases hlt : K.length < n
      · obtain ⟨m, hm, hp, htop⟩ := ih ht' (K ++ [x]) (nodup_put hK hx) (by simp; omega)
        refine ⟨m, hstep _ ?_, .put hx hlt hp, fun h hp' => ?_⟩
        · simp only [if_pos (show (K.length : Int) < (n : Int) by omega)]
          exact Ev.bind (Ev.plain (more_is K x (by omega))) (Ev.bind hm (Ev.now _))
        · cases hp' with
          | hit hx' _ => exact absurd hx' hx
          | put _ _ hp' => exact htop _ hp'
          | evict _ hl' _ _ => omega
      · have hfull : K.length = n := by omega
        obtain ⟨m, hm, hT⟩ := most_loop n x t K hK hfull hn hx hb ht' (fun K' h1 h2 => ih ht' K' h1 h2) _ 0 0 (by omega) rfl (fun i hi => by omega) (.inl ⟨rfl, rfl⟩)
        refine ⟨m, hstep _ ?_, hT⟩
        simp only [if_neg (show ¬ (K.length : Int) < (n : Int) by omega)]
        exact hm
theorem size_is (a : Int) (q : Int) (hq : 1 ≤ q) (hq2 : q ≤ 1000) (hw : (Lit.int .u8 a).wf = true) : ∃ n : Nat, 1 ≤ n ∧ n ≤ q ∧ wrap64 (1 + Int.tmod (wrap64 a) q) = (n : Int) := by
  have e1 : IntKind.u8.min = 0 := by decide
  have e2 : IntKind.u8.max = 255 := by decide
  simp only [Lit.wf, e1, e2, Bool.and_eq_true, decide_eq_true_eq] at hw
  have hwa : wrap64 a = a := by unfold wrap64; omega
  rw [hwa, Int.tmod_eq_emod_of_nonneg hw.1]
  have h1 := Int.emod_nonneg a (show q ≠ 0 by omega)
  have h2 := Int.emod_lt_of_pos a (show 0 < q by omega)
  refine ⟨(1 + a % q).toNat, by omega, by omega, ?_⟩
  unfold wrap64
  omega
theorem most_law (l : List Int) (a : Int) (hw : ∀ x ∈ l, (Lit.int .u64 x).wf = true) (ha : (Lit.int .u8 a).wf = true) : Ev (fun k => hutchlaw27_BestMost.f k l a) true := by
  unfold hutchlaw27_BestMost.f
  by_cases hl : (l.length : Int) > 9
  · simp only [if_pos hl]
    exact Ev.bind alive_ev (Ev.now _)
  · simp only [if_neg hl]
    obtain ⟨n, h1, h2, h3⟩ := size_is a 3 (by omega) (by omega) ha
    rw [h3]
    obtain ⟨h, hh, hp, hb⟩ := hits_best l n h1 (by omega) hw
    obtain ⟨m, hm, hmp, hmb⟩ := most_ev n h1 (by omega) l (by omega) [] (by simp) (by simp)
    have e : h = m := Nat.le_antisymm (hmb _ hp) (hb _ hmp)
    subst e
    refine Ev.bind (Ev.plain hh) (Ev.bind hm ?_)
    simp only [if_true]
    exact Ev.bind alive_ev (Ev.now _)
end Go.Proofs.Ytdjbpdahdakfjaa.BestPure
