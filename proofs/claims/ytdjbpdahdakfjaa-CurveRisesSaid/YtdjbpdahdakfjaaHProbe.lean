/- Keys in slots, each at its own one or behind: what is found, put and freed, as it stands in a list. -/
import Derived.Test.YtdjbpdahdakfjaaHTab
namespace Go.Proofs.YtdjbpdahdakfjaaH.Tab
open Go.RowKit
set_option linter.unusedVariables false

theorem dst_spec {n a b : Nat} : (b ≤ a ∧ dst n a b = a - b) ∨ (a < b ∧ dst n a b = a + n - b) := by
  unfold dst
  split
  · exact .inl ⟨‹_›, rfl⟩
  · exact .inr ⟨by omega, rfl⟩
theorem nxt_spec {n i : Nat} : (i + 1 < n ∧ nxt n i = i + 1) ∨ (n ≤ i + 1 ∧ nxt n i = 0) := by
  unfold nxt
  split
  · exact .inl ⟨‹_›, rfl⟩
  · exact .inr ⟨by omega, rfl⟩
theorem nxt_lt {n i : Nat} (h : i < n) : nxt n i < n := by have := nxt_spec (n := n) (i := i); omega
theorem at_set {s : List Sl} {i j : Nat} {x : Sl} (hi : i < s.length) : at_ (s.set i x) j = if i = j then x else at_ s j := by
  unfold at_
  rw [List.getD_eq_getElem?_getD, List.getD_eq_getElem?_getD, List.getElem?_set]
  by_cases h : i = j
  · rw [if_pos h, if_pos h, if_pos hi]; rfl
  · rw [if_neg h, if_neg h]
/-- How many are taken. -/
def cnt (s : List Sl) : Nat := s.countP (·.t)
theorem cnt_set : ∀ {s : List Sl} {i : Nat} {x : Sl}, i < s.length → cnt (s.set i x) + (if (at_ s i).t = true then 1 else 0) = cnt s + (if x.t = true then 1 else 0)
  | [], i, x, h => absurd h (by simp)
  | y :: r, 0, x, h => by
    rw [show at_ (y :: r) 0 = y from rfl]
    simp only [cnt, List.set_cons_zero, List.countP_cons]
    omega
  | y :: r, i + 1, x, h => by
    have := cnt_set (s := r) (i := i) (x := x) (by simpa using h)
    rw [show at_ (y :: r) (i + 1) = at_ r i from rfl]
    simp only [cnt, List.set_cons_succ, List.countP_cons] at this ⊢
    omega
theorem cnt_free : ∀ {s : List Sl}, cnt s < s.length → ∃ e, e < s.length ∧ (at_ s e).t = false
  | [], h => absurd h (by simp)
  | y :: r, h => by
    cases hy : y.t with
    | false => exact ⟨0, by simp, by simpa [at_] using hy⟩
    | true =>
      obtain ⟨e, he, ht⟩ := cnt_free (s := r) (by simp [cnt, hy] at h ⊢; omega)
      exact ⟨e + 1, by simpa using he, by simpa [at_] using ht⟩
theorem cnt_some : ∀ {s : List Sl}, 0 < cnt s → ∃ e, e < s.length ∧ (at_ s e).t = true
  | [], h => absurd h (by simp [cnt])
  | y :: r, h => by
    cases hy : y.t with
    | true => exact ⟨0, by simp, by simpa [at_] using hy⟩
    | false =>
      obtain ⟨e, he, ht⟩ := cnt_some (s := r) (by simpa [cnt, hy] using h)
      exact ⟨e + 1, by simpa using he, by simpa [at_] using ht⟩
theorem cnt_le (s : List Sl) : cnt s ≤ s.length := List.countP_le_length
/-- Keys stand at their own slots, or behind, with no free one between. -/
structure Inv (home : Int → Nat) (s : List Sl) : Prop where
  hm : ∀ x, home x < s.length
  free : ∃ e, e < s.length ∧ (at_ s e).t = false
  run : ∀ p, p < s.length → (at_ s p).t = true → ∀ q, q < s.length → dst s.length q (home (at_ s p).k) < dst s.length p (home (at_ s p).k) → (at_ s q).t = true
  uniq : ∀ p q, p < s.length → q < s.length → (at_ s p).t = true → (at_ s q).t = true → (at_ s p).k = (at_ s q).k → p = q
/-- A key is there, with a node. -/
def Has (s : List Sl) (key node : Int) : Prop := ∃ p, p < s.length ∧ at_ s p = ⟨key, node, true⟩
theorem Has.one {home : Int → Nat} {s : List Sl} (h : Inv home s) {key a b : Int} (ha : Has s key a) (hb : Has s key b) : a = b := by
  obtain ⟨p, hp, ha⟩ := ha
  obtain ⟨q, hq, hb⟩ := hb
  have := h.uniq p q hp hq (by rw [ha]) (by rw [hb]) (by rw [ha, hb])
  subst this
  rw [ha] at hb
  injection hb
/-- What a search comes to. -/
theorem probe_ok {home : Int → Nat} {s : List Sl} (h : Inv home s) (key : Int) {e : Nat} (he : e < s.length) (hf : (at_ s e).t = false) :
    ∀ (f j : Nat), j < s.length → dst s.length j (home key) ≤ dst s.length e (home key) → dst s.length e (home key) < f + dst s.length j (home key) →
      (∀ q, q < s.length → dst s.length q (home key) < dst s.length j (home key) → (at_ s q).t = true ∧ (at_ s q).k ≠ key) →
      ∃ i b, probe s key f j = some (i, b) ∧ i < s.length ∧ (b = true → (at_ s i).t = true ∧ (at_ s i).k = key) ∧
        (b = false → (at_ s i).t = false ∧ (∀ q, q < s.length → dst s.length q (home key) < dst s.length i (home key) → (at_ s q).t = true) ∧ ∀ p, p < s.length → (at_ s p).t = true → (at_ s p).k ≠ key)
  | 0, j, hj, h1, h2, h3 => by omega
  | f + 1, j, hj, h1, h2, h3 => by
    have hh := h.hm key
    simp only [probe]
    by_cases ht : (at_ s j).t = true
    · rw [if_pos ht]
      by_cases hk : (at_ s j).k = key
      · rw [if_pos hk]
        exact ⟨j, true, rfl, hj, fun _ => ⟨ht, hk⟩, fun h => absurd h (by simp)⟩
      · rw [if_neg hk]
        have hje : j ≠ e := fun x => by rw [x, hf] at ht; exact absurd ht (by simp)
        have hlt : dst s.length j (home key) < dst s.length e (home key) := by
          have a1 := dst_spec (n := s.length) (a := j) (b := home key)
          have a2 := dst_spec (n := s.length) (a := e) (b := home key)
          omega
        have hn : dst s.length (nxt s.length j) (home key) = dst s.length j (home key) + 1 := by
          have a1 := dst_spec (n := s.length) (a := j) (b := home key)
          have a2 := dst_spec (n := s.length) (a := e) (b := home key)
          have a3 := dst_spec (n := s.length) (a := nxt s.length j) (b := home key)
          have a4 := nxt_spec (n := s.length) (i := j)
          omega
        refine probe_ok h key he hf f (nxt s.length j) (nxt_lt hj) (by omega) (by omega) (fun q hq hd => ?_)
        by_cases hqj : q = j
        · subst hqj; exact ⟨ht, hk⟩
        · refine h3 q hq ?_
          have a1 := dst_spec (n := s.length) (a := j) (b := home key)
          have a2 := dst_spec (n := s.length) (a := q) (b := home key)
          omega
    · rw [if_neg ht]
      have ht' : (at_ s j).t = false := by simpa using ht
      refine ⟨j, false, rfl, hj, fun h => absurd h (by simp), fun _ => ⟨ht', fun q hq hd => (h3 q hq hd).1, fun p hp hpt hpk => ?_⟩⟩
      have hpj : p ≠ j := fun x => by rw [x, ht'] at hpt; exact absurd hpt (by simp)
      by_cases hd : dst s.length p (home key) < dst s.length j (home key)
      · exact (h3 p hp hd).2 hpk
      · have := h.run p hp hpt j hj (by
          rw [hpk]
          have a1 := dst_spec (n := s.length) (a := j) (b := home key)
          have a2 := dst_spec (n := s.length) (a := p) (b := home key)
          omega)
        rw [ht'] at this
        exact absurd this (by simp)
theorem probe_from {home : Int → Nat} {s : List Sl} (h : Inv home s) (key : Int) :
    ∃ i b, probe s key (s.length + 1) (home key) = some (i, b) ∧ i < s.length ∧ (b = true → (at_ s i).t = true ∧ (at_ s i).k = key) ∧
        (b = false → (at_ s i).t = false ∧ (∀ q, q < s.length → dst s.length q (home key) < dst s.length i (home key) → (at_ s q).t = true) ∧ ∀ p, p < s.length → (at_ s p).t = true → (at_ s p).k ≠ key) := by
  obtain ⟨e, he, hf⟩ := h.free
  have hh := h.hm key
  have z0 : dst s.length (home key) (home key) = 0 := by unfold dst; rw [if_pos (Nat.le_refl _)]; omega
  have a2 := dst_spec (n := s.length) (a := e) (b := home key)
  exact probe_ok h key he hf (s.length + 1) (home key) hh (by omega) (by omega) (fun q hq hd => by omega)
/-- A key's node is written anew. -/
theorem put_old {home : Int → Nat} {s : List Sl} (h : Inv home s) {i : Nat} (hi : i < s.length) {key node : Int} (ht : (at_ s i).t = true) (hk : (at_ s i).k = key) :
    Inv home (s.set i ⟨key, node, true⟩) ∧ cnt (s.set i ⟨key, node, true⟩) = cnt s ∧ ∀ k v, Has (s.set i ⟨key, node, true⟩) k v ↔ (k = key ∧ v = node) ∨ (k ≠ key ∧ Has s k v) := by
  have hat : ∀ j, (at_ (s.set i ⟨key, node, true⟩) j).t = (at_ s j).t ∧ (at_ (s.set i ⟨key, node, true⟩) j).k = (at_ s j).k := fun j => by
    rw [at_set hi]
    split
    · subst ‹i = j›; exact ⟨ht.symm, hk.symm⟩
    · exact ⟨rfl, rfl⟩
  have hl : (s.set i ⟨key, node, true⟩).length = s.length := List.length_set
  refine ⟨⟨fun x => by rw [hl]; exact h.hm x, ?_, ?_, ?_⟩, ?_, ?_⟩
  · obtain ⟨e, he, hf⟩ := h.free
    exact ⟨e, by rw [hl]; exact he, by rw [(hat e).1]; exact hf⟩
  · intro p hp hpt q hq hd
    rw [hl] at hp hq hd
    rw [(hat p).1] at hpt
    rw [(hat p).2] at hd
    rw [(hat q).1]
    exact h.run p hp hpt q hq hd
  · intro p q hp hq hpt hqt he
    rw [hl] at hp hq
    rw [(hat p).1] at hpt
    rw [(hat q).1] at hqt
    rw [(hat p).2, (hat q).2] at he
    exact h.uniq p q hp hq hpt hqt he
  · have := cnt_set (x := ⟨key, node, true⟩) hi
    rw [if_pos ht, if_pos rfl] at this
    omega
  · intro k v
    constructor
    · rintro ⟨p, hp, hat'⟩
      rw [at_set hi] at hat'
      split at hat'
      · injection hat' with h1 h2
        exact .inl ⟨h1.symm, h2.symm⟩
      · refine .inr ⟨fun e => ?_, p, by rw [hl] at hp; exact hp, hat'⟩
        rename_i hne
        exact hne (h.uniq i p hi (by rw [hl] at hp; exact hp) ht (by rw [hat']) (by rw [hk, hat', e]))
    · rintro (⟨rfl, rfl⟩ | ⟨hne, p, hp, hat'⟩)
      · exact ⟨i, by rw [hl]; exact hi, by rw [at_set hi, if_pos rfl]⟩
      · refine ⟨p, by rw [hl]; exact hp, ?_⟩
        rw [at_set hi, if_neg (fun e => hne (by subst e; rw [← hk, hat']))]
        exact hat'
/-- A new key is put at the first free place. -/
theorem put_new {home : Int → Nat} {s : List Sl} (h : Inv home s) {i : Nat} (hi : i < s.length) {key node : Int} (ht : (at_ s i).t = false)
    (hr : ∀ q, q < s.length → dst s.length q (home key) < dst s.length i (home key) → (at_ s q).t = true) (hno : ∀ p, p < s.length → (at_ s p).t = true → (at_ s p).k ≠ key) (hc : cnt s + 1 < s.length) :
    Inv home (s.set i ⟨key, node, true⟩) ∧ cnt (s.set i ⟨key, node, true⟩) = cnt s + 1 ∧ ∀ k v, Has (s.set i ⟨key, node, true⟩) k v ↔ (k = key ∧ v = node) ∨ (k ≠ key ∧ Has s k v) := by
  have hl : (s.set i ⟨key, node, true⟩).length = s.length := List.length_set
  have hcn : cnt (s.set i ⟨key, node, true⟩) = cnt s + 1 := by
    have := cnt_set (x := ⟨key, node, true⟩) hi
    rw [ht] at this
    simp at this
    omega
  refine ⟨⟨fun x => by rw [hl]; exact h.hm x, ?_, ?_, ?_⟩, hcn, ?_⟩
  · exact cnt_free (by rw [hcn, hl]; omega)
  · intro p hp hpt q hq hd
    rw [hl] at hp hq hd
    rw [at_set hi] at hpt hd ⊢
    by_cases hqi : i = q
    · rw [if_pos hqi]
    · rw [if_neg hqi]
      by_cases hpi : i = p
      · subst hpi
        rw [if_pos rfl] at hd
        exact hr q hq hd
      · rw [if_neg hpi] at hpt hd
        exact h.run p hp hpt q hq hd
  · intro p q hp hq hpt hqt he
    rw [hl] at hp hq
    rw [at_set hi] at hpt hqt he
    rw [at_set hi] at he
    by_cases hpi : i = p <;> by_cases hqi : i = q
    · omega
    · rw [if_neg hqi] at hqt he
      rw [if_pos hpi] at he
      exact absurd he.symm (hno q hq hqt)
    · rw [if_neg hpi] at hpt he
      rw [if_pos hqi] at he
      exact absurd he (hno p hp hpt)
    · rw [if_neg hpi] at hpt he
      rw [if_neg hqi] at hqt he
      exact h.uniq p q hp hq hpt hqt he
  · intro k v
    constructor
    · rintro ⟨p, hp, hat'⟩
      rw [hl] at hp
      rw [at_set hi] at hat'
      split at hat'
      · injection hat' with h1 h2
        exact .inl ⟨h1.symm, h2.symm⟩
      · exact .inr ⟨fun e => hno p hp (by rw [hat']) (by rw [hat', e]), p, hp, hat'⟩
    · rintro (⟨rfl, rfl⟩ | ⟨hne, p, hp, hat'⟩)
      · exact ⟨i, by rw [hl]; exact hi, by rw [at_set hi, if_pos rfl]⟩
      · refine ⟨p, by rw [hl]; exact hp, ?_⟩
        rw [at_set hi, if_neg (fun e => by subst e; rw [hat'] at ht; exact absurd ht (by simp))]
        exact hat'
/-- Places while one is freed: i is the hole, k is looked at. -/
structure Hole (home : Int → Nat) (s : List Sl) (i k : Nat) : Prop where
  hm : ∀ x, home x < s.length
  li : i < s.length
  lk : k < s.length
  ne : k ≠ i
  ti : (at_ s i).t = true
  free : ∃ e, e < s.length ∧ (at_ s e).t = false ∧ dst s.length k i ≤ dst s.length e i
  run : ∀ p, p < s.length → p ≠ i → (at_ s p).t = true → ∀ q, q < s.length → dst s.length q (home (at_ s p).k) < dst s.length p (home (at_ s p).k) → (at_ s q).t = true
  uniq : ∀ p q, p < s.length → q < s.length → p ≠ i → q ≠ i → (at_ s p).t = true → (at_ s q).t = true → (at_ s p).k = (at_ s q).k → p = q
  past : ∀ p, p < s.length → p ≠ i → dst s.length p i < dst s.length k i → (at_ s p).t = true ∧ ¬ dst s.length i (home (at_ s p).k) < dst s.length p (home (at_ s p).k)
/-- A key is there, the hole left out. -/
def HasBut (s : List Sl) (i : Nat) (key node : Int) : Prop := ∃ p, p < s.length ∧ p ≠ i ∧ at_ s p = ⟨key, node, true⟩
theorem clr_ok {home : Int → Nat} (M : Nat) : ∀ (f : Nat) (s : List Sl) (i k : Nat), Hole home s i k → (∃ e, e < s.length ∧ (at_ s e).t = false ∧ dst s.length k i ≤ dst s.length e i ∧ dst s.length e k < f) →
    ∃ S, clr home f s i k = some S ∧ Inv home S ∧ S.length = s.length ∧ cnt S + 1 = cnt s ∧ (∀ a v, Has S a v ↔ HasBut s i a v) ∧ ∀ q, (at_ s q).t = false → (at_ S q).t = false
  | 0, s, i, k, h, he => by
    obtain ⟨e, _, _, _, h⟩ := he
    omega
  | f + 1, s, i, k, h, he => by
    obtain ⟨e, hel, het, hei, hef⟩ := he
    have hli := h.li
    have hlk := h.lk
    have hne := h.ne
    simp only [clr]
    by_cases ht : (at_ s k).t = true
    · rw [if_pos ht]
      have hek : e ≠ k := fun x => by rw [← x, het] at ht; exact absurd ht (by simp)
      have hei' : e ≠ i := fun x => by have := h.ti; rw [← x, het] at this; exact absurd this (by simp)
      have hh := h.hm (at_ s k).k
      by_cases hge : dst s.length k i ≤ dst s.length k (home (at_ s k).k)
      · rw [if_pos hge]
        have hl : (s.set i (at_ s k)).length = s.length := List.length_set
        have hcross : dst s.length i (home (at_ s k).k) < dst s.length k (home (at_ s k).k) := by
          have a1 := dst_spec (n := s.length) (a := k) (b := i)
          have a2 := dst_spec (n := s.length) (a := k) (b := home (at_ s k).k)
          have a3 := dst_spec (n := s.length) (a := i) (b := home (at_ s k).k)
          omega
        have hat : ∀ j, (at_ (s.set i (at_ s k)) j) = if i = j then at_ s k else at_ s j := fun j => at_set hli
        have hatt : ∀ j, (at_ (s.set i (at_ s k)) j).t = (at_ s j).t := fun j => by
          rw [hat]
          split
          · subst ‹i = j›; rw [ht, h.ti]
          · rfl
        have hd1 : dst s.length (nxt s.length k) k = 1 ∧ 1 ≤ dst s.length e k := by
          have a1 := dst_spec (n := s.length) (a := e) (b := k)
          have a2 := dst_spec (n := s.length) (a := nxt s.length k) (b := k)
          have a3 := nxt_spec (n := s.length) (i := k)
          omega
        have hd2 : dst s.length e (nxt s.length k) + 1 = dst s.length e k := by
          have a1 := dst_spec (n := s.length) (a := e) (b := k)
          have a2 := dst_spec (n := s.length) (a := e) (b := nxt s.length k)
          have a3 := nxt_spec (n := s.length) (i := k)
          omega
        have hole : Hole home (s.set i (at_ s k)) k (nxt s.length k) := by
          refine ⟨fun x => by rw [hl]; exact h.hm x, by rw [hl]; exact hlk, by rw [hl]; exact nxt_lt hlk, ?_, by rw [hatt]; exact ht, ⟨e, by rw [hl]; exact hel, by rw [hatt]; exact het, by rw [hl]; omega⟩, ?_, ?_, ?_⟩
          · have a3 := nxt_spec (n := s.length) (i := k)
            omega
          · intro p hp hpk hpt q hq hd
            rw [hl] at hp hq hd
            rw [hatt] at hpt ⊢
            rw [hat] at hd
            by_cases hpi : i = p
            · subst hpi
              rw [if_pos rfl] at hd
              exact h.run k hlk hne ht q hq (by omega)
            · rw [if_neg hpi] at hd
              exact h.run p hp (Ne.symm hpi) hpt q hq hd
          · intro p q hp hq hpk hqk hpt hqt heq
            rw [hl] at hp hq
            rw [hatt] at hpt hqt
            rw [hat, hat] at heq
            by_cases hpi : i = p <;> by_cases hqi : i = q
            · omega
            · rw [if_pos hpi, if_neg hqi] at heq
              exact absurd (h.uniq k q hlk hq hne (Ne.symm hqi) ht hqt heq) (Ne.symm hqk)
            · rw [if_neg hpi, if_pos hqi] at heq
              exact absurd (h.uniq p k hp hlk (Ne.symm hpi) hne hpt ht heq) hpk
            · rw [if_neg hpi, if_neg hqi] at heq
              exact h.uniq p q hp hq (Ne.symm hpi) (Ne.symm hqi) hpt hqt heq
          · intro p hp hpk hd
            rw [hl] at hp hd
            exfalso
            have a1 := dst_spec (n := s.length) (a := p) (b := k)
            omega
        obtain ⟨S, h1, h2, h3, h4, h5, h6⟩ := clr_ok M f _ k _ hole ⟨e, by rw [hl]; exact hel, by rw [hatt]; exact het, by rw [hl]; omega, by rw [hl]; omega⟩
        refine ⟨S, h1, h2, h3.trans hl, ?_, ?_, ?_⟩
        · have := cnt_set (x := at_ s k) hli
          rw [if_pos h.ti, if_pos ht] at this
          omega
        · intro a v
          rw [h5]
          constructor
          · rintro ⟨p, hp, hpk, hpa⟩
            rw [hl] at hp
            rw [hat] at hpa
            by_cases hpi : i = p
            · rw [if_pos hpi] at hpa
              exact ⟨k, hlk, hne, hpa⟩
            · rw [if_neg hpi] at hpa
              exact ⟨p, hp, Ne.symm hpi, hpa⟩
          · rintro ⟨p, hp, hpi, hpa⟩
            by_cases hpk : p = k
            · subst hpk
              exact ⟨i, by rw [hl]; exact hli, Ne.symm hne, by rw [hat, if_pos rfl]; exact hpa⟩
            · exact ⟨p, by rw [hl]; exact hp, hpk, by rw [hat, if_neg (Ne.symm hpi)]; exact hpa⟩
        · intro q hq
          exact h6 q (by rw [hatt]; exact hq)
      · rw [if_neg hge]
        have hd2 : dst s.length e (nxt s.length k) + 1 = dst s.length e k ∧ dst s.length (nxt s.length k) i = dst s.length k i + 1 ∧ dst s.length k i < dst s.length e i := by
          have a1 := dst_spec (n := s.length) (a := e) (b := k)
          have a2 := dst_spec (n := s.length) (a := e) (b := nxt s.length k)
          have a3 := nxt_spec (n := s.length) (i := k)
          have a4 := dst_spec (n := s.length) (a := nxt s.length k) (b := i)
          have a5 := dst_spec (n := s.length) (a := k) (b := i)
          have a6 := dst_spec (n := s.length) (a := e) (b := i)
          omega
        have hole : Hole home s i (nxt s.length k) := by
          refine ⟨h.hm, hli, nxt_lt hlk, ?_, h.ti, ⟨e, hel, het, by omega⟩, h.run, h.uniq, ?_⟩
          · intro x
            have a4 := dst_spec (n := s.length) (a := i) (b := i)
            rw [x] at hd2
            omega
          · intro p hp hpi hd
            by_cases hpk : p = k
            · subst hpk
              refine ⟨ht, fun hc => hge ?_⟩
              have a1 := dst_spec (n := s.length) (a := p) (b := i)
              have a2 := dst_spec (n := s.length) (a := p) (b := home (at_ s p).k)
              have a3 := dst_spec (n := s.length) (a := i) (b := home (at_ s p).k)
              omega
            · refine h.past p hp hpi ?_
              have a1 := dst_spec (n := s.length) (a := p) (b := i)
              have a5 := dst_spec (n := s.length) (a := k) (b := i)
              omega
        exact clr_ok M f s i _ hole ⟨e, hel, het, by omega, by omega⟩
    · rw [if_neg ht]
      have ht' : (at_ s k).t = false := by simpa using ht
      have hl : (s.set i z).length = s.length := List.length_set
      have hat : ∀ j, (at_ (s.set i z) j) = if i = j then z else at_ s j := fun j => at_set hli
      have hnc : ∀ p, p < s.length → p ≠ i → (at_ s p).t = true → ¬ dst s.length i (home (at_ s p).k) < dst s.length p (home (at_ s p).k) := by
        intro p hp hpi hpt hc
        have hpk : p ≠ k := fun x => by rw [x, ht'] at hpt; exact absurd hpt (by simp)
        have hh := h.hm (at_ s p).k
        by_cases hd : dst s.length p i < dst s.length k i
        · exact (h.past p hp hpi hd).2 hc
        · have := h.run p hp hpi hpt k hlk (by
            have a1 := dst_spec (n := s.length) (a := p) (b := i)
            have a2 := dst_spec (n := s.length) (a := p) (b := home (at_ s p).k)
            have a3 := dst_spec (n := s.length) (a := i) (b := home (at_ s p).k)
            have a4 := dst_spec (n := s.length) (a := k) (b := home (at_ s p).k)
            have a5 := dst_spec (n := s.length) (a := k) (b := i)
            omega)
          rw [ht'] at this
          exact absurd this (by simp)
      refine ⟨_, rfl, ⟨fun x => by rw [hl]; exact h.hm x, ⟨k, by rw [hl]; exact hlk, by rw [hat, if_neg (Ne.symm hne)]; exact ht'⟩, ?_, ?_⟩, hl, ?_, ?_, ?_⟩
      · intro p hp hpt q hq hd
        rw [hl] at hp hq hd
        rw [hat] at hpt hd ⊢
        by_cases hpi : i = p
        · rw [if_pos hpi] at hpt
          exact absurd hpt (by simp [z])
        · rw [if_neg hpi] at hpt hd
          by_cases hqi : i = q
          · subst hqi
            exact absurd hd (hnc p hp (Ne.symm hpi) hpt)
          · rw [if_neg hqi]
            exact h.run p hp (Ne.symm hpi) hpt q hq hd
      · intro p q hp hq hpt hqt heq
        rw [hl] at hp hq
        rw [hat] at hpt hqt heq
        rw [hat] at heq
        by_cases hpi : i = p
        · rw [if_pos hpi] at hpt
          exact absurd hpt (by simp [z])
        · by_cases hqi : i = q
          · rw [if_pos hqi] at hqt
            exact absurd hqt (by simp [z])
          · rw [if_neg hpi] at hpt heq
            rw [if_neg hqi] at hqt heq
            exact h.uniq p q hp hq (Ne.symm hpi) (Ne.symm hqi) hpt hqt heq
      · have := cnt_set (x := z) hli
        rw [if_pos h.ti] at this
        simpa [z] using this
      · intro a v
        constructor
        · rintro ⟨p, hp, hpa⟩
          rw [hl] at hp
          rw [hat] at hpa
          by_cases hpi : i = p
          · rw [if_pos hpi] at hpa
            exact absurd hpa (by simp [z])
          · rw [if_neg hpi] at hpa
            exact ⟨p, hp, Ne.symm hpi, hpa⟩
        · rintro ⟨p, hp, hpi, hpa⟩
          exact ⟨p, by rw [hl]; exact hp, by rw [hat, if_neg (Ne.symm hpi)]; exact hpa⟩
      · intro q hq
        rw [hat]
        split
        · rfl
        · exact hq
/-- A key is freed. -/
theorem clr_from {home : Int → Nat} {s : List Sl} (h : Inv home s) {i : Nat} (hi : i < s.length) (ht : (at_ s i).t = true) :
    ∃ S, clr home (s.length + 1) s i (nxt s.length i) = some S ∧ Inv home S ∧ S.length = s.length ∧ cnt S + 1 = cnt s ∧ (∀ a v, Has S a v ↔ a ≠ (at_ s i).k ∧ Has s a v) ∧ ∀ q, (at_ s q).t = false → (at_ S q).t = false := by
  obtain ⟨e, he, hf⟩ := h.free
  have hei : e ≠ i := fun x => by rw [← x, hf] at ht; exact absurd ht (by simp)
  have a1 := dst_spec (n := s.length) (a := nxt s.length i) (b := i)
  have a2 := dst_spec (n := s.length) (a := e) (b := i)
  have a3 := nxt_spec (n := s.length) (i := i)
  have a4 := dst_spec (n := s.length) (a := e) (b := nxt s.length i)
  obtain ⟨S, h1, h2, h3, h4, h5, h6⟩ := clr_ok (home := home) 0 (s.length + 1) s i (nxt s.length i)
    ⟨h.hm, hi, nxt_lt hi, by omega, ht, ⟨e, he, hf, by omega⟩, fun p hp _ => h.run p hp, fun p q hp hq _ _ => h.uniq p q hp hq, fun p hp hpi hd => by
      exfalso
      have a5 := dst_spec (n := s.length) (a := p) (b := i)
      omega⟩ ⟨e, he, hf, by omega, by omega⟩
  refine ⟨S, h1, h2, h3, h4, fun a v => ?_, h6⟩
  rw [h5]
  constructor
  · rintro ⟨p, hp, hpi, hpa⟩
    refine ⟨fun x => hpi (h.uniq p i hp hi (by rw [hpa]) ht (by rw [hpa]; exact x)), p, hp, hpa⟩
  · rintro ⟨hne, p, hp, hpa⟩
    exact ⟨p, hp, fun x => hne (by rw [← x, hpa]), hpa⟩
end Go.Proofs.YtdjbpdahdakfjaaH.Tab
