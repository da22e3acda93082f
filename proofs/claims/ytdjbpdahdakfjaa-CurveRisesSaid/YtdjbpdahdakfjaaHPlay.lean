/- Caches that may choose what goes: what any can do, more room, other keys kept, and what goes last. No program in sight. -/
namespace Go.Proofs.YtdjbpdahdakfjaaH
set_option linter.unusedVariables false

/-- A run of n places over a trace from what is kept: so many hits can be. -/
inductive Play (n : Nat) : List Int → List Int → Nat → Prop
  | nil (K : List Int) : Play n [] K 0
  | hit {x : Int} {t K : List Int} {h : Nat} (hx : x ∈ K) (hp : Play n t K h) : Play n (x :: t) K (h + 1)
  | put {x : Int} {t K : List Int} {h : Nat} (hx : x ∉ K) (hl : K.length < n) (hp : Play n t (K ++ [x]) h) : Play n (x :: t) K h
  | evict {x v : Int} {t K : List Int} {h : Nat} (hx : x ∉ K) (hl : K.length = n) (hv : v ∈ K) (hp : Play n t (K.erase v ++ [x]) h) : Play n (x :: t) K h

theorem len_le_of_subset : ∀ (A B : List Int), A.Nodup → (∀ x ∈ A, x ∈ B) → A.length ≤ B.length
  | [], B, _, _ => Nat.zero_le _
  | a :: A, B, hA, h => by
    rw [List.nodup_cons] at hA
    have hb := h a (by simp)
    have h1 := len_le_of_subset A (B.erase a) hA.2 (fun x hx => by
      have hne : x ≠ a := fun e => hA.1 (e ▸ hx)
      exact (List.mem_erase_of_ne hne).2 (h x (by simp [hx])))
    rw [List.length_erase_of_mem hb] at h1
    have := List.length_pos_of_mem hb
    simp only [List.length_cons]
    omega
theorem exists_other {A B : List Int} (hB : B.Nodup) (hl : A.length < B.length) : ∃ w ∈ B, w ∉ A := by
  refine Classical.byContradiction fun hn => ?_
  have : ∀ x ∈ B, x ∈ A := fun x hx => Classical.byContradiction fun hx' => hn ⟨x, hx, hx'⟩
  have := len_le_of_subset B A hB this
  omega
theorem nodup_put {K : List Int} {x : Int} (h : K.Nodup) (hx : x ∉ K) : (K ++ [x]).Nodup := by
  rw [List.nodup_append]
  refine ⟨h, by simp, fun a ha b hb => ?_⟩
  rw [List.mem_singleton] at hb
  intro e
  exact hx (hb ▸ e ▸ ha)
theorem nodup_evict {K : List Int} {x v : Int} (h : K.Nodup) (hx : x ∉ K) : (K.erase v ++ [x]).Nodup :=
  nodup_put (h.erase v) (fun hm => hx (List.mem_of_mem_erase hm))
theorem mem_evict {K : List Int} {x v y : Int} (h : K.Nodup) : y ∈ K.erase v ++ [x] ↔ (y ≠ v ∧ y ∈ K) ∨ y = x := by
  rw [List.mem_append, List.mem_singleton, h.mem_erase_iff]
theorem len_evict {K : List Int} {x v : Int} (hv : v ∈ K) : (K.erase v ++ [x]).length = K.length := by
  have := List.length_pos_of_mem hv
  rw [List.length_append, List.length_erase_of_mem hv]
  simp
  omega

/-- A state that keeps more, with as much room or more, does as well. -/
theorem Play.more {n n' : Nat} (hnn : n ≤ n') (hn : 1 ≤ n) {t S : List Int} {h : Nat} (hp : Play n t S h) : ∀ S' : List Int, S.Nodup → S'.Nodup → S.length ≤ n → S'.length ≤ n' → (∀ x ∈ S, x ∈ S') → ∃ h', h ≤ h' ∧ Play n' t S' h' := by
  induction hp with
  | nil K => intro S' _ _ _ _ _; exact ⟨0, Nat.le_refl _, .nil _⟩
  | @hit x t K h hx hp ih =>
    intro S' h1 h2 h3 h4 hs
    obtain ⟨h', hle, hp'⟩ := ih S' h1 h2 h3 h4 hs
    exact ⟨h' + 1, by omega, .hit (hs x hx) hp'⟩
  | @put x t K h hx hl hp ih =>
    intro S' h1 h2 h3 h4 hs
    have hl1 : (K ++ [x]).length ≤ n := by rw [List.length_append]; simp; omega
    by_cases hx' : x ∈ S'
    · obtain ⟨h', hle, hp'⟩ := ih S' (nodup_put h1 hx) h2 hl1 h4 (fun y hy => by
        rcases List.mem_append.1 hy with hy | hy
        · exact hs y hy
        · rw [List.mem_singleton] at hy; rw [hy]; exact hx')
      exact ⟨h' + 1, by omega, .hit hx' hp'⟩
    · by_cases hf : S'.length < n'
      · obtain ⟨h', hle, hp'⟩ := ih (S' ++ [x]) (nodup_put h1 hx) (nodup_put h2 hx') hl1 (by rw [List.length_append]; simp; omega) (fun y hy => by
          rcases List.mem_append.1 hy with hy | hy
          · exact List.mem_append.2 (.inl (hs y hy))
          · exact List.mem_append.2 (.inr hy))
        exact ⟨h', hle, .put hx' hf hp'⟩
      · have hfe : S'.length = n' := by omega
        obtain ⟨w, hw, hwn⟩ := exists_other (A := K) h2 (by omega)
        obtain ⟨h', hle, hp'⟩ := ih (S'.erase w ++ [x]) (nodup_put h1 hx) (nodup_evict h2 hx') hl1 (by rw [len_evict hw]; omega) (fun y hy => by
          rw [mem_evict h2]
          rcases List.mem_append.1 hy with hy | hy
          · exact .inl ⟨fun e => hwn (e ▸ hy), hs y hy⟩
          · exact .inr (by simpa using hy))
        exact ⟨h', hle, .evict hx' hfe hw hp'⟩
  | @evict x v t K h hx hl hv hp ih =>
    intro S' h1 h2 h3 h4 hs
    have hl1 : (K.erase v ++ [x]).length ≤ n := by rw [len_evict hv]; exact h3
    by_cases hx' : x ∈ S'
    · obtain ⟨h', hle, hp'⟩ := ih S' (nodup_evict h1 hx) h2 hl1 h4 (fun y hy => by
        rw [mem_evict h1] at hy
        rcases hy with hy | hy
        · exact hs y hy.2
        · rw [hy]; exact hx')
      exact ⟨h' + 1, by omega, .hit hx' hp'⟩
    · by_cases hf : S'.length < n'
      · obtain ⟨h', hle, hp'⟩ := ih (S' ++ [x]) (nodup_evict h1 hx) (nodup_put h2 hx') hl1 (by rw [List.length_append]; simp; omega) (fun y hy => by
          rw [mem_evict h1] at hy
          rcases hy with hy | hy
          · exact List.mem_append.2 (.inl (hs y hy.2))
          · exact List.mem_append.2 (.inr (by simp [hy])))
        exact ⟨h', hle, .put hx' hf hp'⟩
      · have hfe : S'.length = n' := by omega
        obtain ⟨w, hw, hwn⟩ := exists_other (A := K.erase v) h2 (by rw [List.length_erase_of_mem hv]; have := List.length_pos_of_mem hv; omega)
        obtain ⟨h', hle, hp'⟩ := ih (S'.erase w ++ [x]) (nodup_evict h1 hx) (nodup_evict h2 hx') hl1 (by rw [len_evict hw]; omega) (fun y hy => by
          rw [mem_evict h2]
          rw [mem_evict h1] at hy
          rcases hy with hy | hy
          · exact .inl ⟨fun e => hwn (by rw [← e]; exact (h1.mem_erase_iff).2 hy), hs y hy.2⟩
          · exact .inr hy)
        exact ⟨h', hle, .evict hx' hfe hw hp'⟩

/-- One key more is worth one hit at most. -/
theorem Play.one {n : Nat} (hn : 1 ≤ n) (b : Int) {t S : List Int} {h : Nat} (hp : Play n t S h) : ∀ S' : List Int, S.Nodup → S'.Nodup → S.length ≤ n → S'.length ≤ n → (∀ x ∈ S, x ≠ b → x ∈ S') → ∃ h', h ≤ h' + 1 ∧ Play n t S' h' := by
  induction hp with
  | nil K => intro S' _ _ _ _ _; exact ⟨0, by omega, .nil _⟩
  | @hit x t K h hx hp ih =>
    intro S' h1 h2 h3 h4 hs
    by_cases hx' : x ∈ S'
    · obtain ⟨h', hle, hp'⟩ := ih S' h1 h2 h3 h4 hs
      exact ⟨h' + 1, by omega, .hit hx' hp'⟩
    · have hxb : x = b := Classical.byContradiction fun hne => hx' (hs x hx hne)
      by_cases hf : S'.length < n
      · obtain ⟨h', hle, hp'⟩ := hp.more (Nat.le_refl n) hn (S' ++ [x]) h1 (nodup_put h2 hx') h3 (by rw [List.length_append]; simp; omega) (fun y hy => by
          by_cases hyx : y = x
          · exact List.mem_append.2 (.inr (by simp [hyx]))
          · exact List.mem_append.2 (.inl (hs y hy (by rw [← hxb]; exact hyx))))
        exact ⟨h', by omega, .put hx' hf hp'⟩
      · have hfe : S'.length = n := by omega
        obtain ⟨w, hw, hwn⟩ := exists_other (A := K.erase x) h2 (by rw [List.length_erase_of_mem hx]; have := List.length_pos_of_mem hx; omega)
        obtain ⟨h', hle, hp'⟩ := hp.more (Nat.le_refl n) hn (S'.erase w ++ [x]) h1 (nodup_evict h2 hx') h3 (by rw [len_evict hw]; omega) (fun y hy => by
          rw [mem_evict h2]
          by_cases hyx : y = x
          · exact .inr hyx
          · exact .inl ⟨fun e => hwn (by rw [← e]; exact (h1.mem_erase_iff).2 ⟨hyx, hy⟩), hs y hy (by rw [← hxb]; exact hyx)⟩)
        exact ⟨h', by omega, .evict hx' hfe hw hp'⟩
  | @put x t K h hx hl hp ih =>
    intro S' h1 h2 h3 h4 hs
    have hl1 : (K ++ [x]).length ≤ n := by rw [List.length_append]; simp; omega
    by_cases hx' : x ∈ S'
    · obtain ⟨h', hle, hp'⟩ := ih S' (nodup_put h1 hx) h2 hl1 h4 (fun y hy hyb => by
        rcases List.mem_append.1 hy with hy | hy
        · exact hs y hy hyb
        · rw [List.mem_singleton] at hy; rw [hy]; exact hx')
      exact ⟨h' + 1, by omega, .hit hx' hp'⟩
    · by_cases hf : S'.length < n
      · obtain ⟨h', hle, hp'⟩ := ih (S' ++ [x]) (nodup_put h1 hx) (nodup_put h2 hx') hl1 (by rw [List.length_append]; simp; omega) (fun y hy hyb => by
          rcases List.mem_append.1 hy with hy | hy
          · exact List.mem_append.2 (.inl (hs y hy hyb))
          · exact List.mem_append.2 (.inr hy))
        exact ⟨h', hle, .put hx' hf hp'⟩
      · have hfe : S'.length = n := by omega
        obtain ⟨w, hw, hwn⟩ := exists_other (A := K) h2 (by omega)
        obtain ⟨h', hle, hp'⟩ := ih (S'.erase w ++ [x]) (nodup_put h1 hx) (nodup_evict h2 hx') hl1 (by rw [len_evict hw]; omega) (fun y hy hyb => by
          rw [mem_evict h2]
          rcases List.mem_append.1 hy with hy | hy
          · exact .inl ⟨fun e => hwn (e ▸ hy), hs y hy hyb⟩
          · exact .inr (by simpa using hy))
        exact ⟨h', hle, .evict hx' hfe hw hp'⟩
  | @evict x v t K h hx hl hv hp ih =>
    intro S' h1 h2 h3 h4 hs
    have hl1 : (K.erase v ++ [x]).length ≤ n := by rw [len_evict hv]; exact h3
    by_cases hx' : x ∈ S'
    · obtain ⟨h', hle, hp'⟩ := ih S' (nodup_evict h1 hx) h2 hl1 h4 (fun y hy hyb => by
        rw [mem_evict h1] at hy
        rcases hy with hy | hy
        · exact hs y hy.2 hyb
        · rw [hy]; exact hx')
      exact ⟨h' + 1, by omega, .hit hx' hp'⟩
    · by_cases hf : S'.length < n
      · obtain ⟨h', hle, hp'⟩ := ih (S' ++ [x]) (nodup_evict h1 hx) (nodup_put h2 hx') hl1 (by rw [List.length_append]; simp; omega) (fun y hy hyb => by
          rw [mem_evict h1] at hy
          rcases hy with hy | hy
          · exact List.mem_append.2 (.inl (hs y hy.2 hyb))
          · exact List.mem_append.2 (.inr (by simp [hy])))
        exact ⟨h', hle, .put hx' hf hp'⟩
      · have hfe : S'.length = n := by omega
        obtain ⟨w, hw, hwn⟩ := exists_other (A := K.erase v) h2 (by rw [List.length_erase_of_mem hv]; have := List.length_pos_of_mem hv; omega)
        obtain ⟨h', hle, hp'⟩ := ih (S'.erase w ++ [x]) (nodup_evict h1 hx) (nodup_evict h2 hx') hl1 (by rw [len_evict hw]; omega) (fun y hy hyb => by
          rw [mem_evict h2]
          rw [mem_evict h1] at hy
          rcases hy with hy | hy
          · exact .inl ⟨fun e => hwn (by rw [← e]; exact (h1.mem_erase_iff).2 hy), hs y hy.2 hyb⟩
          · exact .inr hy)
        exact ⟨h', hle, .evict hx' hfe hw hp'⟩

theorem idx_same (x : Int) (t : List Int) : (x :: t).idxOf x = 0 := by rw [List.idxOf_cons]; simp
theorem idx_ne {x a : Int} (t : List Int) (h : x ≠ a) : (x :: t).idxOf a = t.idxOf a + 1 := by
  rw [List.idxOf_cons, show (x == a) = false from beq_eq_false_iff_ne.2 h]; rfl
/-- Of two states that differ in one key, the one whose key comes again first does as well or better. -/
theorem Play.sooner {n : Nat} (hn : 1 ≤ n) {t B : List Int} {h : Nat} (hp : Play n t B h) : ∀ (a b : Int) (A : List Int), a ≠ b → A.Nodup → B.Nodup → A.length = B.length → B.length ≤ n → a ∈ A → a ∉ B → b ∈ B → b ∉ A → (∀ x, x ≠ a → x ≠ b → (x ∈ A ↔ x ∈ B)) → t.idxOf a ≤ t.idxOf b → ∃ h', h ≤ h' ∧ Play n t A h' := by
  induction hp with
  | nil K => intro a b A _ _ _ _ _ _ _ _ _ _ _; exact ⟨0, Nat.le_refl _, .nil _⟩
  | @hit x t K h hx hp ih =>
    intro a b A hab hA hB hl hln haA haB hbB hbA hs hi
    have hxa : x ≠ a := fun e => haB (e ▸ hx)
    by_cases hxb : x = b
    · -- then a comes first, which cannot be
      subst hxb
      rw [idx_same, idx_ne t hxa] at hi
      omega
    · obtain ⟨h', hle, hp'⟩ := ih a b A hab hA hB hl hln haA haB hbB hbA hs (by
        rw [idx_ne t hxa, idx_ne t hxb] at hi
        omega)
      exact ⟨h' + 1, by omega, .hit ((hs x hxa hxb).2 hx) hp'⟩
  | @put x t K h hx hl0 hp ih =>
    intro a b A hab hA hB hl hln haA haB hbB hbA hs hi
    have hxb : x ≠ b := fun e => hx (e ▸ hbB)
    by_cases hxa : x = a
    · subst hxa
      obtain ⟨h', hle, hp'⟩ := hp.one hn b A (nodup_put hB hx) hA (by rw [List.length_append]; simp; omega) (by omega) (fun y hy hyb => by
        rcases List.mem_append.1 hy with hy | hy
        · exact (hs y (fun e => hx (e ▸ hy)) hyb).2 hy
        · rw [List.mem_singleton] at hy; rw [hy]; exact haA)
      exact ⟨h' + 1, hle, .hit haA hp'⟩
    · have hxA : x ∉ A := fun hm => hx ((hs x hxa hxb).1 hm)
      obtain ⟨h', hle, hp'⟩ := ih a b (A ++ [x]) hab (nodup_put hA hxA) (nodup_put hB hx) (by simp [hl]) (by rw [List.length_append]; simp; omega) (by simp [haA]) (by simp [haB]; exact fun e => hxa e.symm) (by simp [hbB]) (by simp [hbA]; exact fun e => hxb e.symm)
        (fun y hya hyb => by rw [List.mem_append, List.mem_append, hs y hya hyb]) (by
          rw [idx_ne t hxa, idx_ne t hxb] at hi
          omega)
      exact ⟨h', hle, .put hxA (by omega) hp'⟩
  | @evict x v t K h hx hl0 hv hp ih =>
    intro a b A hab hA hB hl hln haA haB hbB hbA hs hi
    have hxb : x ≠ b := fun e => hx (e ▸ hbB)
    by_cases hxa : x = a
    · subst hxa
      obtain ⟨h', hle, hp'⟩ := hp.one hn b A (nodup_evict hB hx) hA (by rw [len_evict hv]; omega) (by omega) (fun y hy hyb => by
        rw [mem_evict hB] at hy
        rcases hy with hy | hy
        · exact (hs y (fun e => hx (e ▸ hy.2)) hyb).2 hy.2
        · rw [hy]; exact haA)
      exact ⟨h' + 1, hle, .hit haA hp'⟩
    · have hxA : x ∉ A := fun hm => hx ((hs x hxa hxb).1 hm)
      have hi' : t.idxOf a ≤ t.idxOf b := by
        rw [idx_ne t hxa, idx_ne t hxb] at hi
        omega
      by_cases hvb : v = b
      · subst hvb
        obtain ⟨h', hle, hp'⟩ := hp.more (Nat.le_refl n) hn (A.erase a ++ [x]) (nodup_evict hB hx) (nodup_evict hA hxA) (by rw [len_evict hv]; omega) (by rw [len_evict haA]; omega) (fun y hy => by
          rw [mem_evict hB] at hy
          rw [mem_evict hA]
          rcases hy with hy | hy
          · have hya : y ≠ a := fun e => haB (e ▸ hy.2)
            exact .inl ⟨hya, (hs y hya hy.1).2 hy.2⟩
          · exact .inr hy)
        exact ⟨h', hle, .evict hxA (by omega) haA hp'⟩
      · have hva : v ≠ a := fun e => haB (e ▸ hv)
        have hvA : v ∈ A := (hs v hva hvb).2 hv
        obtain ⟨h', hle, hp'⟩ := ih a b (A.erase v ++ [x]) hab (nodup_evict hA hxA) (nodup_evict hB hx) (by rw [len_evict hv, len_evict hvA, hl]) (by rw [len_evict hv]; omega)
          ((mem_evict hA).2 (.inl ⟨fun e => hva e.symm, haA⟩)) (fun hm => by rw [mem_evict hB] at hm; rcases hm with hm | hm; exact haB hm.2; exact hxa hm.symm)
          ((mem_evict hB).2 (.inl ⟨fun e => hvb e.symm, hbB⟩)) (fun hm => by rw [mem_evict hA] at hm; rcases hm with hm | hm; exact hbA hm.2; exact hxb hm.symm)
          (fun y hya hyb => by rw [mem_evict hA, mem_evict hB, hs y hya hyb]) hi'
        exact ⟨h', hle, .evict hxA (by omega) hvA hp'⟩

/-- Let that go which comes last: nothing does better. -/
theorem Play.last {n : Nat} (hn : 1 ≤ n) {x v u : Int} {t K : List Int} {h : Nat} (hK : K.Nodup) (hl : K.length = n) (hx : x ∉ K) (hv : v ∈ K) (hu : u ∈ K) (hi : t.idxOf u ≤ t.idxOf v) (hp : Play n t (K.erase u ++ [x]) h) : ∃ h', h ≤ h' ∧ Play n t (K.erase v ++ [x]) h' := by
  by_cases huv : u = v
  · subst huv; exact ⟨h, Nat.le_refl _, hp⟩
  · have hux : u ≠ x := fun e => hx (e ▸ hu)
    have hvx : v ≠ x := fun e => hx (e ▸ hv)
    refine hp.sooner hn u v _ huv (nodup_evict hK hx) (nodup_evict hK hx) (by rw [len_evict hu, len_evict hv]) (by rw [len_evict hu]; omega)
      ((mem_evict hK).2 (.inl ⟨huv, hu⟩)) (fun hm => by rw [mem_evict hK] at hm; rcases hm with hm | hm; exact hm.1 rfl; exact hux hm)
      ((mem_evict hK).2 (.inl ⟨fun e => huv e.symm, hv⟩)) (fun hm => by rw [mem_evict hK] at hm; rcases hm with hm | hm; exact hm.1 rfl; exact hvx hm)
      (fun y hyu hyv => by
        rw [mem_evict hK, mem_evict hK]
        constructor
        · rintro (h | h)
          · exact .inl ⟨hyu, h.2⟩
          · exact .inr h
        · rintro (h | h)
          · exact .inl ⟨hyv, h.2⟩
          · exact .inr h) hi
end Go.Proofs.YtdjbpdahdakfjaaH
