-- Written by a program of this session (a turned copy of the kit's printer, texts of this session's own for functions that it does not take).
import Derived.Test.YtdjbpdahdakfjaaPLookx0
import Derived.Test.YtdjbpdahdakfjaaPLookx1
import Derived.Test.YtdjbpdahdakfjaaPLookx2
import Derived.Test.YtdjbpdahdakfjaaPLookx3
namespace Go.Proofs.Ytdjbpdahdakfjaa.PLook
open Go.RowKit Go.Proofs.YtdjbpdahdakfjaaH Go.Proofs.YtdjbpdahdakfjaaW.PrintWords Go.Proofs.YtdjbpdahdakfjaaW.PrintLast Go.Proofs.YtdjbpdahdakfjaaW.PrintMore
attribute [local go_sem] max2_int min2_int max_two min_two max_three min_three max_four min_four   -- for this text's walks alone
set_option linter.unusedVariables false
set_option linter.unusedSimpArgs false


/-! ### hutchlaw06_stands: function 94 -/
-- by hand
/-- What is told of a key. -/
def pFind (l : List S124) (key : Int) : Int × Bool := ((l.find? (·.f0 == key)).map fun p => (p.f1, true)).getD (0, false)
def pDrop (l : List S124) (key : Int) : List S124 := l.filter (fun p => p.f0 != key)
def pPut (l : List S124) (key node : Int) : List S124 := (pDrop l key).takeWhile (fun p => decide (p.f0 < key)) ++ ⟨key, node⟩ :: (pDrop l key).dropWhile (fun p => decide (p.f0 < key))
theorem rd124 {l : List S124} {i : Nat} (h : i < l.length) : rd_T124 l (i : Int) = l[i] := by
  unfold rd_T124
  simp [h]
theorem find_ev (l : List S124) (s key : Int) (hl : l.length ≤ 1000000) : ∀ (d i k : Nat), i + d = l.length → d < k → hutchref06_Find.l0 k key (i : Int) l s = some (pFind (l.drop i) key) := by
  intro d
  induction d with
  | zero =>
    intro i k h hk
    obtain ⟨k, rfl⟩ : ∃ m, k = m + 1 := ⟨k - 1, by omega⟩
    simp only [hutchref06_Find.l0]
    rw [if_neg (by omega), List.drop_of_length_le (by omega)]
    rfl
  | succ d ih =>
    intro i k h hk
    obtain ⟨k, rfl⟩ : ∃ m, k = m + 1 := ⟨k - 1, by omega⟩
    simp only [hutchref06_Find.l0]
    have hi : i < l.length := by omega
    rw [if_pos (by omega), if_pos (by omega), rd124 hi, List.drop_eq_getElem_cons hi]
    by_cases he : l[i].f0 = key
    · rw [if_pos he]
      generalize l[i] = x at he
      generalize l.drop (i + 1) = r
      simp [pFind, he]
    · rw [if_neg he, show wrap64 ((i : Int) + 1) = ((i + 1 : Nat) : Int) by unfold wrap64; omega, ih (i + 1) k (by omega) (by omega)]
      generalize l[i] = x at he
      generalize l.drop (i + 1) = r
      simp [pFind, he]
theorem drop_ev (l : List S124) (s key : Int) (hl : l.length ≤ 1000000) : ∀ (d i k : Nat) (acc : List S124), i + d = l.length → d < k → acc.length ≤ i → hutchref06_Drop.l0 k key acc (i : Int) l s = some (acc ++ pDrop (l.drop i) key, s, decide (((acc ++ pDrop (l.drop i) key).length : Int) < (l.length : Int))) := by
  intro d
  induction d with
  | zero =>
    intro i k acc h hk ha
    obtain ⟨k, rfl⟩ : ∃ m, k = m + 1 := ⟨k - 1, by omega⟩
    simp only [hutchref06_Drop.l0]
    rw [if_neg (by omega), List.drop_of_length_le (by omega)]
    simp [pDrop]
  | succ d ih =>
    intro i k acc h hk ha
    obtain ⟨k, rfl⟩ : ∃ m, k = m + 1 := ⟨k - 1, by omega⟩
    simp only [hutchref06_Drop.l0]
    have hi : i < l.length := by omega
    have hw : wrap64 ((i : Int) + 1) = ((i + 1 : Nat) : Int) := by unfold wrap64; omega
    rw [if_pos (by omega), if_pos (by omega), rd124 hi, List.drop_eq_getElem_cons hi, hw]
    by_cases he : l[i].f0 = key
    · rw [if_pos he, ih (i + 1) k acc (by omega) (by omega) (by omega)]
      generalize l[i] = x at he
      generalize l.drop (i + 1) = r
      simp [pDrop, he]
    · rw [if_neg he, if_pos (by omega), ih (i + 1) k _ (by omega) (by omega) (by simp; omega)]
      generalize l[i] = x at he
      generalize l.drop (i + 1) = r
      have : pDrop (x :: r) key = x :: pDrop r key := by simp [pDrop, he]
      rw [this]
      simp
theorem put_fin (l : List S124) (s key node : Int) (b : Bool) (hl : l.length ≤ 1000000) (hs : 0 ≤ s ∧ s ≤ 1000000) (i : Nat) (acc : List S124) (hi : i ≤ l.length) (ha : acc.length ≤ i) : (if (wrap64 (2 * ((acc ++ [(⟨key, node⟩ : S124)] ++ l.drop i).length : Int))) > s then some (acc ++ [(⟨key, node⟩ : S124)] ++ l.drop i, wrap64 (2 * s), !b) else some (acc ++ [(⟨key, node⟩ : S124)] ++ l.drop i, s, !b)) =
    some (acc ++ ⟨key, node⟩ :: l.drop i, if 2 * ((acc ++ ⟨key, node⟩ :: l.drop i).length : Int) > s then 2 * s else s, !b) := by
  have hL : (acc ++ [(⟨key, node⟩ : S124)] ++ l.drop i) = acc ++ ⟨key, node⟩ :: l.drop i := by simp
  rw [hL]
  have h0 : (acc ++ (⟨key, node⟩ : S124) :: l.drop i).length ≤ 2000001 := by simp; omega
  have h1 : wrap64 (2 * ((acc ++ (⟨key, node⟩ : S124) :: l.drop i).length : Int)) = 2 * ((acc ++ (⟨key, node⟩ : S124) :: l.drop i).length : Int) := by
    unfold wrap64
    omega
  have h2 : wrap64 (2 * s) = 2 * s := by unfold wrap64; omega
  rw [h1, h2]
  by_cases hc : 2 * ((acc ++ (⟨key, node⟩ : S124) :: l.drop i).length : Int) > s
  · rw [if_pos hc, if_pos hc]
  · rw [if_neg hc, if_neg hc]
theorem put_big (l : List S124) (key node : Int) (hl : l.length ≤ 1000000) (i : Nat) (acc : List S124) (hi : i ≤ l.length) (ha : acc.length ≤ i) : (acc ++ [(⟨key, node⟩ : S124)]).length + (l.drop i).length < 8796093022208 := by
  have : (acc ++ [(⟨key, node⟩ : S124)]).length + (l.drop i).length ≤ 2000001 := by simp; omega
  omega
theorem put_ev (l : List S124) (s key node : Int) (b : Bool) (hl : l.length ≤ 1000000) (hs : 0 ≤ s ∧ s ≤ 1000000) : ∀ (d i k : Nat) (acc : List S124), i + d = l.length → d < k → acc.length ≤ i →
    hutchref06_Put.l0 k key node b acc (i : Int) l s = some (acc ++ (l.drop i).takeWhile (fun p => decide (p.f0 < key)) ++ ⟨key, node⟩ :: (l.drop i).dropWhile (fun p => decide (p.f0 < key)), if 2 * ((acc ++ (l.drop i).takeWhile (fun p => decide (p.f0 < key)) ++ ⟨key, node⟩ :: (l.drop i).dropWhile (fun p => decide (p.f0 < key))).length : Int) > s then 2 * s else s, !b) := by
  intro d
  induction d with
  | zero =>
    intro i k acc h hk ha
    obtain ⟨k, rfl⟩ : ∃ m, k = m + 1 := ⟨k - 1, by omega⟩
    simp only [hutchref06_Put.l0]
    rw [if_neg (by omega), if_pos (by omega), Option.bind_some]
    (try rw [if_pos (show (0 : Int) ≤ (i : Int) by omega)])
    rw [if_pos (by omega), Option.bind_some, Int.toNat_natCast, if_pos (put_big l key node hl i acc (by omega) ha), Option.bind_some, put_fin l s key node b hl hs i acc (by omega) ha, List.drop_of_length_le (by omega)]
    simp
  | succ d ih =>
    intro i k acc h hk ha
    obtain ⟨k, rfl⟩ : ∃ m, k = m + 1 := ⟨k - 1, by omega⟩
    simp only [hutchref06_Put.l0]
    have hi : i < l.length := by omega
    have hw : wrap64 ((i : Int) + 1) = ((i + 1 : Nat) : Int) := by unfold wrap64; omega
    rw [if_pos (by omega), if_pos (by omega), rd124 hi]
    by_cases he : l[i].f0 < key
    · rw [if_pos he, if_pos (by omega), hw, ih (i + 1) k _ (by omega) (by omega) (by simp; omega), List.drop_eq_getElem_cons hi]
      generalize l[i] = x at he
      generalize l.drop (i + 1) = r
      simp [he]
    · rw [if_neg he, if_pos (by omega), Option.bind_some]
      (try rw [if_pos (show (0 : Int) ≤ (i : Int) by omega)])
      rw [if_pos (by omega), Option.bind_some, Int.toNat_natCast, if_pos (put_big l key node hl i acc (by omega) ha), Option.bind_some, put_fin l s key node b hl hs i acc (by omega) ha, List.drop_eq_getElem_cons hi]
      generalize l[i] = x at he
      generalize l.drop (i + 1) = r
      simp [he]
theorem find_f (l : List S124) (s key : Int) (hl : l.length ≤ 1000000) : hutchref06_Find.f (l.length + 1) l s key = some ((pFind l key).1, (pFind l key).2) := by
  have := find_ev l s key hl l.length 0 (l.length + 1) (by omega) (by omega)
  simpa [hutchref06_Find.f] using this
theorem drop_f (l : List S124) (s key : Int) (hl : l.length ≤ 1000000) : hutchref06_Drop.f (l.length + 1) l s key = some (pDrop l key, s, decide (((pDrop l key).length : Int) < (l.length : Int))) := by
  have := drop_ev l s key hl l.length 0 (l.length + 1) [] (by omega) (by omega) (by simp)
  simpa [hutchref06_Drop.f] using this
theorem put_f (l : List S124) (s key node : Int) (hl : l.length ≤ 1000000) (hs : 0 ≤ s ∧ s ≤ 1000000) : hutchref06_Put.f (l.length + 1) l s key node = some (pPut l key node, if 2 * ((pPut l key node).length : Int) > s then 2 * s else s, !decide (((pDrop l key).length : Int) < (l.length : Int))) := by
  have hd : (pDrop l key).length ≤ l.length := List.length_filter_le _ _
  have := put_ev (pDrop l key) s key node (decide (((pDrop l key).length : Int) < (l.length : Int))) (by omega) hs (pDrop l key).length 0 (l.length + 1) [] (by omega) (by omega) (by simp)
  unfold hutchref06_Put.f
  rw [drop_f l s key hl]
  simpa [pPut] using this
/-- A table holds just what the document's has. -/
structure RelT (t : Tab.Tb) (l : List S124) (s : Int) : Prop where
  has : ∀ k v, t.has k v ↔ (⟨k, v⟩ : S124) ∈ l
  srt : l.Pairwise (fun a b => a.f0 < b.f0)
  len : t.len = l.length
  nl : (t.now.sl.length : Int) = s
theorem RelT.none {t : Tab.Tb} {l : List S124} {s key : Int} (h : RelT t l s) : (∀ v, ¬ t.has key v) ↔ ∀ p ∈ l, p.f0 ≠ key := by
  constructor
  · intro hn p hp he
    exact hn p.f1 ((h.has _ _).2 (by rw [← he]; exact hp))
  · intro hn v hv
    exact hn _ ((h.has _ _).1 hv) rfl
theorem RelT.uniq {t : Tab.Tb} {l : List S124} {s : Int} (h : RelT t l s) {a b : S124} (ha : a ∈ l) (hb : b ∈ l) (he : a.f0 = b.f0) : a = b := by
  obtain ⟨i, hi, rfl⟩ := List.getElem_of_mem ha
  obtain ⟨j, hj, rfl⟩ := List.getElem_of_mem hb
  rcases Nat.lt_trichotomy i j with h1 | h1 | h1
  · have := List.pairwise_iff_getElem.1 h.srt i j hi hj h1; omega
  · subst h1; rfl
  · have := List.pairwise_iff_getElem.1 h.srt j i hj hi h1; omega
theorem RelT.find {t : Tab.Tb} {l : List S124} {s key n : Int} {b : Bool} (h : RelT t l s) (h1 : b = true → t.has key n) (h2 : b = false → n = 0 ∧ ∀ v, ¬ t.has key v) : n = (pFind l key).1 ∧ b = (pFind l key).2 := by
  unfold pFind
  cases hf : l.find? (·.f0 == key) with
  | none =>
    have hn : ∀ p ∈ l, p.f0 ≠ key := fun p hp he => by
      have := List.find?_eq_none.1 hf p hp
      simp [he] at this
    have hn2 := h.none.2 hn
    cases b with
    | true => exact absurd (h1 rfl) (hn2 n)
    | false => exact ⟨(h2 rfl).1, rfl⟩
  | some p =>
    have hp := List.mem_of_find?_eq_some hf
    have hk : p.f0 = key := by have := List.find?_some hf; simpa using this
    cases b with
    | false => exact absurd ((h.has key p.f1).2 (by rw [← hk]; exact hp)) ((h2 rfl).2 _)
    | true =>
      have := h.uniq ((h.has _ _).1 (h1 rfl)) hp (by rw [hk])
      exact ⟨by rw [← this]; rfl, rfl⟩
theorem mem_pDrop {l : List S124} {key : Int} {p : S124} : p ∈ pDrop l key ↔ p ∈ l ∧ p.f0 ≠ key := by simp [pDrop]
theorem RelT.drop_len {t : Tab.Tb} {l : List S124} {s key : Int} (h : RelT t l s) : ((∀ v, ¬ t.has key v) → pDrop l key = l) ∧ ((∃ v, t.has key v) → (pDrop l key).length + 1 = l.length) := by
  constructor
  · intro hn
    exact List.filter_eq_self.2 (fun p hp => by simpa using h.none.1 hn p hp)
  · rintro ⟨v, hv⟩
    have hm := (h.has _ _).1 hv
    have hc : l.countP (fun p => p.f0 == key) = 1 := by
      have h1 : 0 < l.countP (fun p => p.f0 == key) := List.countP_pos_iff.2 ⟨_, hm, by simp⟩
      have h2 : l.countP (fun p => p.f0 == key) ≤ 1 := by
        rw [List.countP_eq_length_filter]
        have hp : (l.filter (fun p => p.f0 == key)).Pairwise (fun a b => a.f0 < b.f0) := h.srt.filter _
        cases hf : l.filter (fun p => p.f0 == key) with
        | nil => simp
        | cons a r =>
          cases r with
          | nil => simp
          | cons b r =>
            rw [hf] at hp
            have ha : a ∈ l.filter (fun p => p.f0 == key) := by rw [hf]; simp
            have hb : b ∈ l.filter (fun p => p.f0 == key) := by rw [hf]; simp
            have h3 := (List.mem_filter.1 ha).2
            have h4 := (List.mem_filter.1 hb).2
            have h5 := (List.pairwise_cons.1 hp).1 b (by simp)
            simp at h3 h4
            omega
      omega
    have h3 := List.length_eq_countP_add_countP (fun p : S124 => p.f0 == key) (l := l)
    have h4 : (pDrop l key).length = l.countP (fun p => decide (¬ (p.f0 == key) = true)) := by
      unfold pDrop
      rw [List.countP_eq_length_filter]
      congr 2
      funext p
      by_cases he : p.f0 = key <;> simp [he]
    omega
theorem RelT.drop {t t2 : Tab.Tb} {l : List S124} {s key : Int} {b : Bool} (h : RelT t l s) (hd : Tab.DropEnd tabHome t t2 key b) : RelT t2 (pDrop l key) s ∧ b = decide (((pDrop l key).length : Int) < (l.length : Int)) := by
  have hl := hd.len
  have hL := h.len
  cases b with
  | false =>
    have he := h.drop_len.1 (hd.there.1 rfl)
    simp only [Bool.false_eq_true, if_false] at hl
    refine ⟨⟨fun k v => by rw [hd.has, mem_pDrop, h.has]; exact And.comm, h.srt.filter _, by rw [he]; omega, by rw [hd.nl]; exact h.nl⟩, ?_⟩
    rw [he]; simp
  | true =>
    have hex : ∃ v, t.has key v := Classical.byContradiction (fun hn => by
      have := hd.there.2 (fun v hv => hn ⟨v, hv⟩)
      exact absurd this (by simp))
    have he := h.drop_len.2 hex
    simp only [if_true] at hl
    refine ⟨⟨fun k v => by rw [hd.has, mem_pDrop, h.has]; exact And.comm, h.srt.filter _, by omega, by rw [hd.nl]; exact h.nl⟩, ?_⟩
    rw [decide_eq_true (by omega)]
theorem mem_pPut {l : List S124} {key node : Int} {p : S124} : p ∈ pPut l key node ↔ p = ⟨key, node⟩ ∨ p ∈ pDrop l key := by
  unfold pPut
  rw [List.mem_append, List.mem_cons]
  conv => rhs; rw [← List.takeWhile_append_dropWhile (p := fun p : S124 => decide (p.f0 < key)) (l := pDrop l key), List.mem_append]
  constructor
  · rintro (h | h | h)
    · exact .inr (.inl h)
    · exact .inl h
    · exact .inr (.inr h)
  · rintro (h | h | h)
    · exact .inr (.inl h)
    · exact .inl h
    · exact .inr (.inr h)
theorem pPut_len (l : List S124) (key node : Int) : (pPut l key node).length = (pDrop l key).length + 1 := by
  have := congrArg List.length (List.takeWhile_append_dropWhile (p := fun p : S124 => decide (p.f0 < key)) (l := pDrop l key))
  rw [List.length_append] at this
  unfold pPut
  rw [List.length_append, List.length_cons]
  omega
theorem lt_drops {key : Int} : ∀ {D : List S124}, D.Pairwise (fun a b => a.f0 < b.f0) → (∀ p ∈ D, p.f0 ≠ key) → ∀ p ∈ D.dropWhile (fun p => decide (p.f0 < key)), key < p.f0
  | [], _, _, p, hp => absurd hp (by simp)
  | x :: r, hs, hn, p, hp => by
    rw [List.dropWhile_cons] at hp
    by_cases hx : x.f0 < key
    · rw [if_pos (by simpa using hx)] at hp
      exact lt_drops (List.pairwise_cons.1 hs).2 (fun q hq => hn q (List.mem_cons_of_mem _ hq)) p hp
    · rw [if_neg (by simpa using hx)] at hp
      have h1 := hn x (List.mem_cons_self ..)
      rcases List.mem_cons.1 hp with rfl | hp
      · omega
      · have := (List.pairwise_cons.1 hs).1 p hp
        omega
theorem lt_takes {key : Int} : ∀ {D : List S124}, ∀ p ∈ D.takeWhile (fun p => decide (p.f0 < key)), p.f0 < key
  | [], p, hp => absurd hp (by simp)
  | x :: r, p, hp => by
    rw [List.takeWhile_cons] at hp
    by_cases hx : x.f0 < key
    · rw [if_pos (by simpa using hx)] at hp
      rcases List.mem_cons.1 hp with rfl | hp
      · exact hx
      · exact lt_takes p hp
    · rw [if_neg (by simpa using hx)] at hp
      exact absurd hp (by simp)
theorem RelT.put {t t2 : Tab.Tb} {l : List S124} {s key node : Int} {b : Bool} (h : RelT t l s) (hI : Tab.TInv tabHome 0 t) (hp : Tab.PutEnd tabHome t t2 key node b) :
    RelT t2 (pPut l key node) (if 2 * ((pPut l key node).length : Int) > s then 2 * s else s) ∧ b = !decide (((pDrop l key).length : Int) < (l.length : Int)) := by
  have hl := hp.len
  have hL := h.len
  have hnl := hp.nl
  have hload := hI.load
  have hs := h.nl
  have hpl := pPut_len l key node
  have hsD : (pDrop l key).Pairwise (fun a b => a.f0 < b.f0) := h.srt.filter _
  have hnD : ∀ p ∈ pDrop l key, p.f0 ≠ key := fun p hp => (mem_pDrop.1 hp).2
  have hsrt : (pPut l key node).Pairwise (fun a b => a.f0 < b.f0) := by
    unfold pPut
    rw [List.pairwise_append, List.pairwise_cons]
    refine ⟨hsD.sublist (List.takeWhile_sublist _), ⟨lt_drops hsD hnD, hsD.sublist (List.dropWhile_sublist _)⟩, fun a ha c hc => ?_⟩
    have h1 := lt_takes a ha
    rcases List.mem_cons.1 hc with rfl | hc
    · exact h1
    · have := lt_drops hsD hnD c hc
      omega
  have hhas : ∀ k v, t2.has k v ↔ (⟨k, v⟩ : S124) ∈ pPut l key node := fun k v => by
    rw [hp.has, mem_pPut, mem_pDrop, h.has]
    constructor
    · rintro (⟨rfl, rfl⟩ | ⟨h1, h2⟩)
      · exact .inl rfl
      · exact .inr ⟨h2, h1⟩
    · rintro (h1 | ⟨h1, h2⟩)
      · injection h1 with h1 h2
        exact .inl ⟨h1, h2⟩
      · exact .inr ⟨h2, h1⟩
  cases b with
  | true =>
    have hno := hp.new.1 rfl
    have he := h.drop_len.1 hno
    simp only [if_true, true_and] at hl hnl
    refine ⟨⟨hhas, hsrt, by rw [hpl, he]; omega, ?_⟩, by rw [he]; simp⟩
    rw [hpl, he, hnl]
    by_cases hc : t.now.sl.length < 2 * (t.len + 1)
    · rw [if_pos hc, if_pos (by omega)]; push_cast; omega
    · rw [if_neg hc, if_neg (by omega)]; exact hs
  | false =>
    have hex : ∃ v, t.has key v := Classical.byContradiction (fun hn => by
      have := hp.new.2 (fun v hv => hn ⟨v, hv⟩)
      exact absurd this (by simp))
    have he := h.drop_len.2 hex
    simp only [Bool.false_eq_true, if_false, false_and] at hl hnl
    refine ⟨⟨hhas, hsrt, by rw [hpl]; omega, ?_⟩, by rw [decide_eq_true (by omega)]; rfl⟩
    rw [hpl, hnl, if_neg (by omega)]
    exact hs
set_option maxRecDepth 100000 in
set_option maxHeartbeats 8000000 in
theorem hutchlaw06_stands.calls {g : Nat} {cs : Array Value} {t : Tab.Tb} {l : List S124} {s key : Int} {A : Option Addr} {c : Nat} {w : World} (hT : Tab.TbAt 111 107 w g cs t) (hI : Tab.TInv tabHome 0 t) (hR : RelT t l s) (hC : Kd.C k124 w A l.length l) (hc : l.length ≤ c) (hl : l.length ≤ 1000000) :
    Calls Try.prog 94 #[.pointer (some ⟨g, 0, none⟩), .agg #[.slice A l.length c, .int .i64 s], .int .u64 key] w fun e w' => e = .returned (.bool true) ∧ Below w.heap.size w w' := by
  have HT := Aside0.mk hT
  have HI := Aside0.mk hI
  have HR := Aside0.mk hR
  have HC := Aside0.mk hC
  have hb0 : Below w.heap.size w (w.alloc (.cells #[.slice A l.length c, .int .i64 s] 80)) := (Below.refl _ _).alloc (Nat.le_refl _) _
  have HB0 := Aside0.mk hb0
  have HX0 := Aside0.mk (blk_new w (.cells #[.slice A l.length c, .int .i64 s] 80))
  have HF := Aside0.mk (lookup_Table_Find.calls key (hT.far (w' := w.alloc (.cells #[.slice A l.length c, .int .i64 s] 80)) (fun k hk => hb0.block k (hT.lt k hk))) hI)
  have HRF := Aside0.mk (fun nd => hutchref06_Find.calls (l.length + 1) A c l s key _ _ ((w.alloc (.cells #[.slice A l.length c, .int .i64 s] 80)).drewN nd) (Kd.C_below hC (pw_below_drewN hb0 nd)) hc (find_f l s key hl))
  have HLT := Aside0.mk hl
  clear hT hI hR hC hb0 hl
  go_enter Try.func94, Try.ntmps94
  go_wp2_with (first
    | (go_at_call 49; (with_reducible refine HF.out.mono ?_); rintro e w1 ⟨n, b, rfl, f1, f2, nd, rfl⟩; obtain ⟨rfl, rfl⟩ := HR.out.find f1 f2; clear f1 f2)
    | (go_at_call 111; (with_reducible refine (HRF.out _).mono ?_); rintro e w2 ⟨rfl, hb⟩; have HB2 := Aside0.mk hb; clear hb))
  have hlt0 : w.heap.size < ((w.alloc (.cells #[.slice A l.length c, .int .i64 s] 80)).drewN nd).heap.size := by simp
  have hB := (pw_below_drewN HB0.out nd).trans (HB2.out.mono (Nat.le_of_lt hlt0))
  have hbx : w2.heap[w.heap.size]? = some (.cells #[.slice A l.length c, .int .i64 s] 80 (0, 0)) := (HB2.out.block _ hlt0).trans HX0.out
  have hx0 : w2.cell? ⟨w.heap.size, 0, none⟩ = some (.slice A l.length c) := (blk_cell hbx 0).trans rfl
  have hx1 : w2.cell? ⟨w.heap.size, 1, none⟩ = some (.int .i64 s) := (blk_cell hbx 1).trans rfl
  have hT2 := HT.out.far (w' := w2) (fun k hk => hB.block k (HT.out.lt k hk))
  have hln : ∀ nd, Calls Try.prog 47 #[.pointer (some ⟨g, 0, none⟩)] (w2.drewN nd) fun e w' => e = .returned (.int .i64 (l.length : Int)) ∧ ∃ m, w' = (w2.drewN nd).drewN m := fun nd => by
    have := lookup_Table_Len.calls (hT2.drewN nd) HI.out (Nat.le_trans HI.out.fit.small (by decide))
    rw [HR.out.len] at this
    exact this
  have hsl : ∀ nd, Calls Try.prog 61 #[.pointer (some ⟨g, 0, none⟩)] (w2.drewN nd) fun e w' => e = .returned (.int .i64 s) ∧ w' = w2.drewN nd := fun nd => by
    have := lookup_Table_Slots.calls (hT2.drewN nd)
    rw [HR.out.nl] at this
    exact this
  have HLN := Aside0.mk hln
  have HSL := Aside0.mk hsl
  have HB := Aside0.mk hB
  generalize (pFind l key).1 = fn
  generalize (pFind l key).2 = fb
  generalize l.length = n at hx0 HLN hc ⊢
  clear hlt0 hB hbx hT2 hln hsl
  go_quiet ((first | (go_at_call 47; exact Calls.quiet_of (HLN.out _)) | (go_at_call 61; exact Calls.quiet_of_same (HSL.out _))))
  go_wp2
  go_ret
  exact ⟨by simp, pw_below_drewN HB.out _⟩


/-! ### hutchlaw06_play: function 57 -/
-- by hand
/-- What stands in memory while acts are played. -/
structure PM (w0 w : World) (g : Nat) (cs : Array Value) (t : Tab.Tb) (B5 B8 : Nat) (A : Option Addr) (c : Nat) (l : List S124) (s : Int) : Prop where
  live : Tab.Live 111 107 tabHome w0 w g cs t
  row : Kd.R k124 124 w w0.heap.size (fun k => ¬ t.foot g k ∧ k ≠ B5 ∧ k ≠ B8) (.slice A l.length c) l
  b5 : w.heap[B5]? = some (.cells #[.slice A l.length c, .int .i64 s] 80 (0, 0))
  b8 : ∃ x y, w.heap[B8]? = some (.cells #[x, y] 80 (0, 0))
  f5 : ¬ t.foot g B5
  f8 : ¬ t.foot g B8
  ne : B5 ≠ B8
  lo : w0.heap.size ≤ B5 ∧ w0.heap.size ≤ B8
section
variable {w0 w w' w2 : World} {g : Nat} {cs cs' : Array Value} {t t' : Tab.Tb} {B5 B8 : Nat} {A A' : Option Addr} {c c' : Nat} {l l' : List S124} {s s' : Int}
theorem PM.below (h : PM w0 w g cs t B5 B8 A c l s) (hb : Below w.heap.size w w') : PM w0 w' g cs t B5 B8 A c l s := by
  obtain ⟨x, y, h8⟩ := h.b8
  exact ⟨h.live.other hb, Kd.R_below h.row hb, (hb.block _ (blk_lt h.b5)).trans h.b5, ⟨x, y, (hb.block _ (blk_lt h8)).trans h8⟩, h.f5, h.f8, h.ne, h.lo⟩
theorem PM.mut (h : PM w0 w g cs t B5 B8 A c l s) (h1 : Tab.TbAt 111 107 w' g cs' t') (h2 : Tab.TInv tabHome 0 t') (h3 : Mut (t.foot g) w (t'.foot g) w') : PM w0 w' g cs' t' B5 B8 A c l s := by
  obtain ⟨x, y, h8⟩ := h.b8
  refine ⟨h.live.step h1 h2 h3, ?_, h3.far h.b5 h.f5, ⟨x, y, h3.far h8 h.f8⟩, h3.apart h.b5 h.f5, h3.apart h8 h.f8, h.ne, h.lo⟩
  refine Kd.R_mono (Kd.R_step (Kd.R_bound h.row) (fun k hk _ => h3.block k hk.2.2.1 hk.1.1)) (fun k hk => ⟨?_, hk.1.2⟩)
  obtain ⟨⟨h4, _⟩, _, _, _, _, cells, h5⟩ := hk
  exact h3.apart h5 h4
theorem PM.store (h : PM w0 w g cs t B5 B8 A c l s) (hb : Below w.heap.size w w2) (hr : Kd.R k124 124 w2 w.heap.size (fun _ => True) (.slice A' l'.length c') l') (s' : Int) :
    PM w0 (w2.setCells B5 0 [.slice A' l'.length c', .int .i64 s']) g cs t B5 B8 A' c' l' s' := by
  have h2 := h.below hb
  obtain ⟨x, y, h8⟩ := h2.b8
  have hfar : ∀ k, k ≠ B5 → (w2.setCells B5 0 [.slice A' l'.length c', .int .i64 s']).heap[k]? = w2.heap[k]? := fun k hk => setCells_far _ _ k hk
  obtain ⟨q1, q2, q3, q4⟩ := setCells_same B5 [.slice A' l'.length c', .int .i64 s'] 0 w2
  have hm : Mut (t.foot g) w2 (t.foot g) w2 := Mut.refl _ _
  have hlive : Tab.Live 111 107 tabHome w0 (w2.setCells B5 0 [.slice A' l'.length c', .int .i64 s']) g cs t :=
    ⟨h2.live.tab.far (fun k hk => hfar k (fun e => h2.f5 (e ▸ hk))), h2.live.inv, h2.live.foot,
      ⟨q1.trans h2.live.below.os, q2.trans h2.live.below.tape, q3.trans h2.live.below.output, by rw [q4]; exact h2.live.below.size, fun k hk => (hfar k (by have := h2.lo.1; omega)).trans (h2.live.below.block k hk)⟩⟩
  refine ⟨hlive, ?_, ?_, ⟨x, y, (hfar _ (Ne.symm h2.ne)).trans h8⟩, h2.f5, h2.f8, h2.ne, h2.lo⟩
  · have h5 := blk_lt h.b5
    obtain ⟨x0, y0, h80⟩ := h.b8
    have h9 := blk_lt h80
    have hb1 := Kd.R_lower (Kd.R_mono (Kd.R_bound hr) (ok' := fun k => ¬ t.foot g k ∧ k ≠ B5 ∧ k ≠ B8) (fun k hk => ⟨fun hf => by have := h.live.tab.lt k hf; omega, by omega, by omega⟩)) h.live.below.size
    exact Kd.R_step hb1 (fun k hk _ => hfar k hk.2.1)
  · have := blk_set (blk_set h2.b5 0 (.slice A' l'.length c')) 1 (.int .i64 s')
    exact this
/-- The result is stored, in a block of its own. -/
theorem PM.out (h : PM w0 w g cs t B5 B8 A c l s) (x y : Value) :
    Tab.Live 111 107 tabHome w0 ((w.setCell ⟨B8, 0, none⟩ x).setCell ⟨B8, 1, none⟩ y) g cs t ∧ Kd.R k124 124 ((w.setCell ⟨B8, 0, none⟩ x).setCell ⟨B8, 1, none⟩ y) w0.heap.size (fun k => ¬ t.foot g k) (.slice A l.length c) l ∧
      ((w.setCell ⟨B8, 0, none⟩ x).setCell ⟨B8, 1, none⟩ y).cell? ⟨B8, 0, none⟩ = some x ∧ ((w.setCell ⟨B8, 0, none⟩ x).setCell ⟨B8, 1, none⟩ y).cell? ⟨B8, 1, none⟩ = some y := by
  obtain ⟨x0, y0, h8⟩ := h.b8
  have hfar : ∀ k, k ≠ B8 → ((w.setCell ⟨B8, 0, none⟩ x).setCell ⟨B8, 1, none⟩ y).heap[k]? = w.heap[k]? := fun k hk => (Below.heap_setCell _ ⟨B8, 1, none⟩ _ k hk).trans (Below.heap_setCell _ ⟨B8, 0, none⟩ _ k hk)
  have hb := blk_set (blk_set h8 0 x) 1 y
  refine ⟨⟨h.live.tab.far (fun k hk => hfar k (fun e => h.f8 (e ▸ hk))), h.live.inv, h.live.foot, (h.live.below.setCell h.lo.2 x).setCell h.lo.2 y⟩, Kd.R_mono (Kd.R_step h.row (fun k hk _ => hfar k hk.2.2)) (fun k hk => hk.1), (blk_cell hb 0).trans rfl, (blk_cell hb 1).trans rfl⟩
end
/-- What is known of the table, and of the document's, behind so many acts. -/
structure PR (t : Tab.Tb) (l : List S124) (s : Int) (i : Nat) : Prop where
  rel : RelT t l s
  len : l.length ≤ i
  mv : 0 ≤ t.moves ∧ t.moves ≤ 4 * i
  nl : t.now.sl.length ≤ 4096
theorem PR.drop {t t2 : Tab.Tb} {l : List S124} {s key : Int} {i : Nat} {b : Bool} (h : PR t l s i) (hd : Tab.DropEnd tabHome t t2 key b) : PR t2 (pDrop l key) s (i + 1) ∧ b = decide (((pDrop l key).length : Int) < (l.length : Int)) := by
  obtain ⟨h1, h2⟩ := h.rel.drop hd
  have h3 := hd.lo
  have h4 := hd.hi
  have h5 := h.mv
  have h6 : (pDrop l key).length ≤ l.length := List.length_filter_le _ _
  have h7 := h.len
  exact ⟨⟨h1, by omega, by omega, by rw [hd.nl]; exact h.nl⟩, h2⟩
theorem PR.put {t t2 : Tab.Tb} {l : List S124} {s key node : Int} {i : Nat} {b : Bool} (h : PR t l s i) (hi : i ≤ 150) (hI : Tab.TInv tabHome 0 t) (hp : Tab.PutEnd tabHome t t2 key node b) :
    PR t2 (pPut l key node) (if 2 * ((pPut l key node).length : Int) > s then 2 * s else s) (i + 1) ∧ b = !decide (((pDrop l key).length : Int) < (l.length : Int)) := by
  obtain ⟨h1, h2⟩ := h.rel.put hI hp
  have h3 := hp.lo
  have h4 := hp.hi
  have h5 := h.mv
  have h6 : (pDrop l key).length ≤ l.length := List.length_filter_le _ _
  have h7 := h.len
  have h8 := pPut_len l key node
  have h9 := h.rel.len
  have h10 := h.nl
  refine ⟨⟨h1, by omega, by omega, ?_⟩, h2⟩
  rw [hp.nl]
  split <;> omega
/-- What stands behind a play. -/
def PlayPost (w0 : World) (g : Nat) (e : Ending) (w' : World) : Prop := ∃ (cs : Array Value) (t : Tab.Tb) (A : Option Addr) (c : Nat) (l : List S124) (s : Int) (i : Nat), e = .returned (.tuple #[.agg #[.slice A l.length c, .int .i64 s], .bool true]) ∧ i ≤ 150 ∧ PR t l s i ∧ Tab.Live 111 107 tabHome w0 w' g cs t ∧ Kd.R k124 124 w' w0.heap.size (fun k => ¬ t.foot g k) (.slice A l.length c) l
set_option maxRecDepth 100000 in
set_option maxHeartbeats 16000000 in
theorem hutchlaw06_play.calls {w0 w : World} {g : Nat} {cs : Array Value} {t : Tab.Tb} {A : Option Addr} {c : Nat} {l : List S124} {s : Int} {A2 : Option Addr} {c2 : Nat} {acts : List S117} {key : Int}
    (hL : Tab.Live 111 107 tabHome w0 w g cs t) (hR : Kd.R k124 124 w w0.heap.size (fun k => ¬ t.foot g k) (.slice A l.length c) l) (hP : PR t l s 0) (hA : Kd.C k117 w0 A2 acts.length acts) (hc2 : acts.length ≤ c2) (hn : acts.length ≤ 150) :
    Calls Try.prog 57 #[.pointer (some ⟨g, 0, none⟩), .agg #[.slice A l.length c, .int .i64 s], .slice A2 acts.length c2, .int .u64 key] w (PlayPost w0 g) := by
  have HA := Aside0.mk hA
  have HP := Aside0.mk hP
  have hbw := hL.below
  have hpm : PM w0 ((w.alloc (.cells #[.slice A l.length c, .int .i64 s] 80)).alloc (.cells #[.slice none 0 0, .int .i64 0] 80)) g cs t w.heap.size (w.heap.size + 1) A c l s := by
    have hb : Below w.heap.size w ((w.alloc (.cells #[.slice A l.length c, .int .i64 s] 80)).alloc (.cells #[.slice none 0 0, .int .i64 0] 80)) := ((Below.refl _ _).alloc (Nat.le_refl _) _).alloc (by simp) _
    have hs0 := hL.below.size
    refine ⟨hL.other hb, ?_, (Below.heap_alloc _ _ _ (by simp)).trans (blk_new w _), ⟨.slice none 0 0, .int .i64 0, ?_⟩, fun hf => by have := hL.tab.lt _ hf; omega, fun hf => by have := hL.tab.lt _ hf; omega, by omega, by omega, by omega⟩
    · exact Kd.R_below (Kd.R_mono (Kd.R_bound hR) (fun k hk => ⟨hk.1, by omega, by omega⟩)) hb
    · have := blk_new (w.alloc (.cells #[.slice A l.length c, .int .i64 s] 80)) (.cells #[.slice none 0 0, .int .i64 0] 80)
      simpa using this
  have HPM := Aside0.mk hpm
  have hn' : (acts.length : Int) ≤ 150 := by omega
  clear hL hR hP hA hbw hpm
  go_enter Try.func57, Try.ntmps57
  go_wp2
  go_loopg [18] acts.length (fun kq v18 w' => ∃ (i : Nat) (cs1 : Array Value) (t1 : Tab.Tb) (A1 : Option Addr) (c1 : Nat) (l1 : List S124) (s1 : Int), v18 = .int .i64 (i : Int) ∧ i + kq = acts.length ∧ Aside0 (PM w0 w' g cs1 t1 w.heap.size (w.heap.size + 1) A1 c1 l1 s1) ∧ Aside0 (PR t1 l1 s1 i))
  case atStart => exact ⟨0, cs, t, A, c, l, s, rfl, by omega, HPM, HP⟩
  case round =>
    obtain ⟨i, cs1, t1, A1, c1, l1, s1, rfl, hik, HM1, HP1⟩ := hrel
    by_cases hlt : i < acts.length
    · obtain ⟨k1, rfl⟩ : ∃ k1, gk = k1 + 1 := ⟨gk - 1, by omega⟩
      obtain ⟨ad, rfl, x0, x1, x2⟩ := at_T117 (Kd.C_below HA.out HM1.out.live.below) (i : Int) (by omega) (by omega)
      rw [Int.toNat_natCast] at x0 x1 x2
      obtain ⟨xx, hxx⟩ : ∃ xx, xx = rd_T117 acts (i : Int) := ⟨_, rfl⟩
      rw [← hxx] at x0 x1 x2
      obtain ⟨kd, ky, nd0⟩ := xx
      simp only at x0 x1 x2
      have i0 : (0 : Int) ≤ (i : Int) := by omega
      have i1 : (i : Int) < (acts.length : Int) := by omega
      clear hxx
      go_wp2_with (fail)
      generalize hW : wr.alloc (.cells #[.int .i64 kd, .int .u64 ky, .int .i32 nd0] 117) = Wa
      have HMa := Aside0.mk (show PM w0 Wa g cs1 t1 w.heap.size (w.heap.size + 1) A1 c1 l1 s1 by rw [← hW]; exact HM1.out.below ((Below.refl _ _).alloc (Nat.le_refl _) _))
      have hxa : Wa.heap[wr.heap.size]? = some (.cells #[.int .i64 kd, .int .u64 ky, .int .i32 nd0] 117 (0, 0)) := by rw [← hW]; exact blk_new wr _
      have hfa : ¬ t1.foot g wr.heap.size := fun hf => by have := HM1.out.live.tab.lt _ hf; omega
      have ha0 : Wa.cell? ⟨wr.heap.size, 0, none⟩ = some (.int .i64 kd) := (blk_cell hxa 0).trans rfl
      have ha1 : Wa.cell? ⟨wr.heap.size, 1, none⟩ = some (.int .u64 ky) := (blk_cell hxa 1).trans rfl
      have ha2 : Wa.cell? ⟨wr.heap.size, 2, none⟩ = some (.int .i32 nd0) := (blk_cell hxa 2).trans rfl
      have HXA := Aside0.mk hxa
      have HFA := Aside0.mk hfa
      have HNE := Aside0.mk (show wr.heap.size ≠ w.heap.size by have := blk_lt HM1.out.b5; omega)
      generalize wr.heap.size = B11 at hxa hfa ha0 ha1 ha2 HXA HFA HNE ⊢
      have hl1 : l1.length ≤ 1000000 := by have := HP1.out.len; omega
      obtain ⟨hrn, hrc, hrC⟩ := Kd.R_reads' HMa.out.row
      have hmv := HP1.out.mv
      have hm0 : 0 ≤ t1.moves := hmv.1
      have hm1 : t1.moves ≤ 1000 := by omega
      have HLEN := Aside0.mk (show i ≤ 150 by omega)
      clear hW hxa hfa x0 x1 x2 hmv hrn hrC
      refine (lookup_Table_Moves.calls HMa.out.live.tab).mono ?_
      rintro e w9 ⟨rfl, rfl⟩
      by_cases hk0 : kd = 0
      · have bk : (kd == 0) = true := beq_iff_eq.2 hk0
        have hput := fun (t2 : Tab.Tb) (b : Bool) (hp : Tab.DropEnd tabHome t1 t2 ky b) => HP1.out.drop hp
        have href := fun (W : World) (hC : Kd.C k124 W A1 l1.length l1) => hutchref06_Drop.calls (l1.length + 1) A1 c1 l1 s1 ky _ _ _ W hC hrc (drop_f l1 s1 ky hl1)
        generalize (decide (((pDrop l1 ky).length : Int) < (l1.length : Int))) = bp at hput href
        generalize pDrop l1 ky = lp at hput href
        have HPUT := Aside0.mk hput
        have HREF := Aside0.mk href
        clear hput href hk0
        go_wp2_with (first
          | (go_at_call 48; refine (lookup_Table_Drop.calls ky HMa.out.live.tab HMa.out.live.inv hm0 (by omega)).mono ?_; rintro e wb ⟨b, cs2, t2, rfl, q1, q2, q3⟩; obtain ⟨hpr, rfl⟩ := HPUT.out t2 b q2; have HPR := Aside0.mk hpr; have HMb := Aside0.mk (HMa.out.mut q1 q2.inv q3); have hxb := q3.far HXA.out HFA.out; have hfb := q3.apart HXA.out HFA.out; have mlo := q2.lo; have mhi := q2.hi; have hb1 : wb.cell? ⟨B11, 1, none⟩ = some (.int .u64 ky) := (blk_cell hxb 1).trans rfl; have hb2 : wb.cell? ⟨B11, 2, none⟩ = some (.int .i32 nd0) := (blk_cell hxb 2).trans rfl; have h50 : wb.cell? ⟨w.heap.size, 0, none⟩ = some (.slice A1 l1.length c1) := (blk_cell HMb.out.b5 0).trans rfl; have h51 : wb.cell? ⟨w.heap.size, 1, none⟩ = some (.int .i64 s1) := (blk_cell HMb.out.b5 1).trans rfl; have z1 : decide (t2.moves < t1.moves) = false := decide_eq_false (by omega); have z2 : IntKind.u64.wrap (t2.moves - t1.moves) = t2.moves - t1.moves := (by rw [IntKind.wrap_u64]; omega); have z3 : decide (4 < t2.moves - t1.moves) = false := decide_eq_false (by omega); have HXB := Aside0.mk hxb; have HFB := Aside0.mk hfb; clear hpr q1 q2 q3 hxb hfb ha0 ha1 ha2 mlo mhi)
          | (go_at_call 92; (with_reducible refine (HREF.out _ (Kd.R_reads' HMb.out.row).2.2).mono ?_); rintro e wc ⟨v0, rfl, r0, r1⟩; obtain ⟨A3, c3, rfl, hc3, _⟩ := Kd.R_reads r0; have HMc := Aside0.mk (HMb.out.below r1); have HMd := Aside0.mk (HMb.out.store r1 r0 s1); have h52 : wc.cell? ⟨w.heap.size, 0, none⟩ = some (.slice A1 l1.length c1) := (blk_cell HMc.out.b5 0).trans rfl; have h53 : wc.cell? ⟨w.heap.size, 1, none⟩ = some (.int .i64 s1) := (blk_cell HMc.out.b5 1).trans rfl; have f5 : ∀ j, wc.frozen? ⟨w.heap.size, j, none⟩ = false := (fun j => blk_frozen HMc.out.b5 j); have HXC := Aside0.mk ((r1.block _ (blk_lt HXB.out)).trans HXB.out); clear r0 r1 hb1 hb2 h50 h51 hc3))
        have HMd' := Aside0.mk (show PM w0 ((wc.setCell ⟨w.heap.size, 0, none⟩ (.slice A3 lp.length c3)).setCell ⟨w.heap.size, 1, none⟩ (.int .i64 s1)) g cs2 t2 w.heap.size (w.heap.size + 1) A3 c3 lp s1 from HMd.out)
        have hxd : ((wc.setCell ⟨w.heap.size, 0, none⟩ (.slice A3 lp.length c3)).setCell ⟨w.heap.size, 1, none⟩ (.int .i64 s1)).heap[B11]? = _ := (Below.heap_setCell _ ⟨w.heap.size, 1, none⟩ _ B11 HNE.out).trans ((Below.heap_setCell _ ⟨w.heap.size, 0, none⟩ _ B11 HNE.out).trans HXC.out)
        generalize (wc.setCell ⟨w.heap.size, 0, none⟩ (.slice A3 lp.length c3)).setCell ⟨w.heap.size, 1, none⟩ (.int .i64 s1) = Wd at HMd' hxd ⊢
        have hd1 : Wd.cell? ⟨B11, 1, none⟩ = some (.int .u64 ky) := (blk_cell hxd 1).trans rfl
        have hd50 : Wd.cell? ⟨w.heap.size, 0, none⟩ = some (.slice A3 lp.length c3) := (blk_cell HMd'.out.b5 0).trans rfl
        have hd51 : Wd.cell? ⟨w.heap.size, 1, none⟩ = some (.int .i64 s1) := (blk_cell HMd'.out.b5 1).trans rfl
        have hlp : lp.length ≤ 1000000 := by have := HPR.out.len; have := HLEN.out; omega
        have HLP := Aside0.mk hlp
        clear h52 h53 f5 hxd hlp HMd
        refine (lookup_Table_Moves.calls HMd'.out.live.tab).mono ?_
        rintro e w9 ⟨rfl, rfl⟩
        go_wp2_with (first
          | (go_at_call 94; (with_reducible refine (hutchlaw06_stands.calls (key := ky) HMd'.out.live.tab HMd'.out.live.inv HPR.out.rel (Kd.R_reads' HMd'.out.row).2.2 (Kd.R_reads' HMd'.out.row).2.1 HLP.out).mono ?_); rintro e we ⟨rfl, hb⟩; have HMe := Aside0.mk (HMd'.out.below hb); have he50 : we.cell? ⟨w.heap.size, 0, none⟩ = some (.slice A3 lp.length c3) := (blk_cell HMe.out.b5 0).trans rfl; have he51 : we.cell? ⟨w.heap.size, 1, none⟩ = some (.int .i64 s1) := (blk_cell HMe.out.b5 1).trans rfl; clear hb hd50 hd51 hd1)
          | (go_at_call 94; (with_reducible refine (hutchlaw06_stands.calls (key := key) HMe.out.live.tab HMe.out.live.inv HPR.out.rel (Kd.R_reads' HMe.out.row).2.2 (Kd.R_reads' HMe.out.row).2.1 HLP.out).mono ?_); rintro e wf ⟨rfl, hb⟩; have HMf := Aside0.mk (HMe.out.below hb); clear hb he50 he51)
          | (go_at_call 50; (with_reducible refine (lookup_Table_Moves.calls HMf.out.live.tab).mono ?_); rintro e w9 ⟨rfl, rfl⟩))
        go_roundg k1
        case measure => omega
        case rel => exact ⟨i + 1, cs2, t2, A3, c3, lp, s1, by go_num, by omega, HMf, HPR⟩
      · have bk : (kd == 0) = false := beq_eq_false_iff_ne.2 hk0
        have hs1 : 0 ≤ s1 ∧ s1 ≤ 1000000 := by have h1 := HP1.out.rel.nl; have h2 := HP1.out.nl; omega
        have hput := fun (t2 : Tab.Tb) (b : Bool) (hp : Tab.PutEnd tabHome t1 t2 ky nd0 b) => HP1.out.put HLEN.out HMa.out.live.inv hp
        have href := fun (W : World) (hC : Kd.C k124 W A1 l1.length l1) => hutchref06_Put.calls (l1.length + 1) A1 c1 l1 s1 ky nd0 _ _ _ W hC hrc (put_f l1 s1 ky nd0 hl1 hs1)
        generalize (if 2 * ((pPut l1 ky nd0).length : Int) > s1 then 2 * s1 else s1) = sp at hput href
        generalize (!decide (((pDrop l1 ky).length : Int) < (l1.length : Int))) = bp at hput href
        generalize pPut l1 ky nd0 = lp at hput href
        have HPUT := Aside0.mk hput
        have HREF := Aside0.mk href
        clear hput href hk0
        go_wp2_with (first
          | (go_at_call 46; refine (lookup_Table_Put.calls ky nd0 HMa.out.live.tab HMa.out.live.inv hm0 (by omega) (Tab.bits_lt HMa.out.live.inv.fit HP1.out.nl (by decide))).mono ?_; rintro e wb ⟨b, cs2, t2, rfl, q1, q2, q3⟩; obtain ⟨hpr, rfl⟩ := HPUT.out t2 b q2; have HPR := Aside0.mk hpr; have HMb := Aside0.mk (HMa.out.mut q1 q2.inv q3); have hxb := q3.far HXA.out HFA.out; have hfb := q3.apart HXA.out HFA.out; have mlo := q2.lo; have mhi := q2.hi; have hb1 : wb.cell? ⟨B11, 1, none⟩ = some (.int .u64 ky) := (blk_cell hxb 1).trans rfl; have hb2 : wb.cell? ⟨B11, 2, none⟩ = some (.int .i32 nd0) := (blk_cell hxb 2).trans rfl; have h50 : wb.cell? ⟨w.heap.size, 0, none⟩ = some (.slice A1 l1.length c1) := (blk_cell HMb.out.b5 0).trans rfl; have h51 : wb.cell? ⟨w.heap.size, 1, none⟩ = some (.int .i64 s1) := (blk_cell HMb.out.b5 1).trans rfl; have z1 : decide (t2.moves < t1.moves) = false := decide_eq_false (by omega); have z2 : IntKind.u64.wrap (t2.moves - t1.moves) = t2.moves - t1.moves := (by rw [IntKind.wrap_u64]; omega); have z3 : decide (4 < t2.moves - t1.moves) = false := decide_eq_false (by omega); have HXB := Aside0.mk hxb; have HFB := Aside0.mk hfb; clear hpr q1 q2 q3 hxb hfb ha0 ha1 ha2 mlo mhi)
          | (go_at_call 93; (with_reducible refine (HREF.out _ (Kd.R_reads' HMb.out.row).2.2).mono ?_); rintro e wc ⟨v0, rfl, r0, r1⟩; obtain ⟨A3, c3, rfl, hc3, _⟩ := Kd.R_reads r0; have HMc := Aside0.mk (HMb.out.below r1); have HMd := Aside0.mk (HMb.out.store r1 r0 sp); have h52 : wc.cell? ⟨w.heap.size, 0, none⟩ = some (.slice A1 l1.length c1) := (blk_cell HMc.out.b5 0).trans rfl; have h53 : wc.cell? ⟨w.heap.size, 1, none⟩ = some (.int .i64 s1) := (blk_cell HMc.out.b5 1).trans rfl; have f5 : ∀ j, wc.frozen? ⟨w.heap.size, j, none⟩ = false := (fun j => blk_frozen HMc.out.b5 j); have HXC := Aside0.mk ((r1.block _ (blk_lt HXB.out)).trans HXB.out); clear r0 r1 hb1 hb2 h50 h51 hc3))
        have HMd' := Aside0.mk (show PM w0 ((wc.setCell ⟨w.heap.size, 0, none⟩ (.slice A3 lp.length c3)).setCell ⟨w.heap.size, 1, none⟩ (.int .i64 sp)) g cs2 t2 w.heap.size (w.heap.size + 1) A3 c3 lp sp from HMd.out)
        have hxd : ((wc.setCell ⟨w.heap.size, 0, none⟩ (.slice A3 lp.length c3)).setCell ⟨w.heap.size, 1, none⟩ (.int .i64 sp)).heap[B11]? = _ := (Below.heap_setCell _ ⟨w.heap.size, 1, none⟩ _ B11 HNE.out).trans ((Below.heap_setCell _ ⟨w.heap.size, 0, none⟩ _ B11 HNE.out).trans HXC.out)
        generalize (wc.setCell ⟨w.heap.size, 0, none⟩ (.slice A3 lp.length c3)).setCell ⟨w.heap.size, 1, none⟩ (.int .i64 sp) = Wd at HMd' hxd ⊢
        have hd1 : Wd.cell? ⟨B11, 1, none⟩ = some (.int .u64 ky) := (blk_cell hxd 1).trans rfl
        have hd50 : Wd.cell? ⟨w.heap.size, 0, none⟩ = some (.slice A3 lp.length c3) := (blk_cell HMd'.out.b5 0).trans rfl
        have hd51 : Wd.cell? ⟨w.heap.size, 1, none⟩ = some (.int .i64 sp) := (blk_cell HMd'.out.b5 1).trans rfl
        have hlp : lp.length ≤ 1000000 := by have := HPR.out.len; have := HLEN.out; omega
        have HLP := Aside0.mk hlp
        clear h52 h53 f5 hxd hlp HMd
        refine (lookup_Table_Moves.calls HMd'.out.live.tab).mono ?_
        rintro e w9 ⟨rfl, rfl⟩
        go_wp2_with (first
          | (go_at_call 94; (with_reducible refine (hutchlaw06_stands.calls (key := ky) HMd'.out.live.tab HMd'.out.live.inv HPR.out.rel (Kd.R_reads' HMd'.out.row).2.2 (Kd.R_reads' HMd'.out.row).2.1 HLP.out).mono ?_); rintro e we ⟨rfl, hb⟩; have HMe := Aside0.mk (HMd'.out.below hb); have he50 : we.cell? ⟨w.heap.size, 0, none⟩ = some (.slice A3 lp.length c3) := (blk_cell HMe.out.b5 0).trans rfl; have he51 : we.cell? ⟨w.heap.size, 1, none⟩ = some (.int .i64 sp) := (blk_cell HMe.out.b5 1).trans rfl; clear hb hd50 hd51 hd1)
          | (go_at_call 94; (with_reducible refine (hutchlaw06_stands.calls (key := key) HMe.out.live.tab HMe.out.live.inv HPR.out.rel (Kd.R_reads' HMe.out.row).2.2 (Kd.R_reads' HMe.out.row).2.1 HLP.out).mono ?_); rintro e wf ⟨rfl, hb⟩; have HMf := Aside0.mk (HMe.out.below hb); clear hb he50 he51)
          | (go_at_call 50; (with_reducible refine (lookup_Table_Moves.calls HMf.out.live.tab).mono ?_); rintro e w9 ⟨rfl, rfl⟩))
        go_roundg k1
        case measure => omega
        case rel => exact ⟨i + 1, cs2, t2, A3, c3, lp, sp, by go_num, by omega, HMf, HPR⟩
    · obtain ⟨x8, y8, h8⟩ := HM1.out.b8
      have e50 : wr.cell? ⟨w.heap.size, 0, none⟩ = some (.slice A1 l1.length c1) := (blk_cell HM1.out.b5 0).trans rfl
      have e51 : wr.cell? ⟨w.heap.size, 1, none⟩ = some (.int .i64 s1) := (blk_cell HM1.out.b5 1).trans rfl
      have e80 : wr.cell? ⟨w.heap.size + 1, 0, none⟩ = some x8 := (blk_cell h8 0).trans rfl
      have e81 : wr.cell? ⟨w.heap.size + 1, 1, none⟩ = some y8 := (blk_cell h8 1).trans rfl
      have f8 : ∀ j, wr.frozen? ⟨w.heap.size + 1, j, none⟩ = false := fun j => blk_frozen h8 j
      have HH8 := Aside0.mk h8
      clear h8
      go_wp2
      obtain ⟨o1, o2, o3, o4⟩ := HM1.out.out (.slice A1 l1.length c1) (.int .i64 s1)
      generalize (wr.setCell ⟨w.heap.size + 1, 0, none⟩ (.slice A1 l1.length c1)).setCell ⟨w.heap.size + 1, 1, none⟩ (.int .i64 s1) = W9 at o1 o2 o3 o4 ⊢
      exact bodyPost_ret (v := .tuple #[.agg #[.slice A1 l1.length c1, .int .i64 s1], .bool true]) (by simp [results, Try.results57, go_sem, o3, o4]) rfl ⟨cs1, t1, A1, c1, l1, s1, i, rfl, by omega, HP1.out, o1, o2⟩

/-! ### hutchref06_New: function 58 -/
def hutchref06_New.f  : Option ((List (S124)) × Int) := some (([] : List (S124)), 8)
set_option maxHeartbeats 8000000 in
set_option maxRecDepth 100000 in
theorem hutchref06_New.calls  (r1 : List (S124)) (r2 : Int) (w : World) (h : hutchref06_New.f  = some (r1, r2)) :
    Calls Try.prog 58 #[] w fun e w' => ∃ v0_ : Value, e = .returned (.agg #[v0_, .int .i64 r2]) ∧ Kd.R k124 124 w' w.heap.size (fun _ => True) v0_ r1 ∧ Below w.heap.size w w' := by
  have hu80 := Try.underlying80
  have HB := Aside0.mk (Below.refl w.heap.size w)
  have H : (some (([] : List (S124)), 8)) = some (r1, r2) := h
  clear h
  simp only [Option.some.injEq, Prod.mk.injEq] at H
  obtain ⟨rfl, rfl⟩ := H
  go_enter Try.func58, Try.ntmps58
  go_wp2_with (first | ((with_reducible refine gate_dst (N := 0) rfl ?_); refine box_event ?hg (N := 0) ?hd (cs := #[.slice none 0 0, .int .i64 0]) (t := 80) ?hr ?_; (case hd => rfl); (case hg => rfl); (case hr => first | (go_simp; done) | (go_simp; rfl)); intro gb149 hg w1 hbox hb; have n0_ := Aside0.mk (below_step (by repeat (first | (with_reducible first | exact HB.out | apply below_alloc | apply pw_below_drewN | apply below_drew1) | exact HB.out)) hb); have n1_ := Aside0.mk (hbox); have n2_ := Aside0.mk ((by rw [hg]; exact (below_size (by repeat (first | (with_reducible first | exact HB.out | apply below_alloc | apply pw_below_drewN | apply below_drew1) | exact HB.out))) : w.heap.size ≤ gb149)); have n3_ := Aside0.mk ((by rw [hg]; exact (below_size (by repeat (first | (with_reducible first | exact HB.out | apply below_alloc | apply pw_below_drewN | apply below_drew1) | exact HB.out))) : w.heap.size ≤ gb149)); clear HB; have HB := n0_; have BK149 := n1_; have GW149 := n2_; have GE149 := n3_; clear n0_ n1_ n2_ n3_; clear hb hbox hg; have hcz2_0 : w1.cell? ⟨gb149, 0, none⟩ = some (.slice none 0 0) := (blk_cell BK149.out 0).trans rfl; have hcz2_1 : w1.cell? ⟨gb149, 1, none⟩ = some (.int .i64 0) := (blk_cell BK149.out 1).trans rfl; have hfz2_0 := blk_frozen BK149.out 0; have hfz2_1 := blk_frozen BK149.out 1))
  refine bodyPost_ret (results_cell_row rfl _ _ gb149 80 #[.slice none 0 0, .int .i64 8] (0, 0) _ rfl (by (with_reducible repeat (first | refine blk_drewN ?_ _ | refine blk_drew ?_ | refine blk_alloc ?_ _)); refine blk_put (cs := #[.slice none 0 0, .int .i64 0]) ?_ 1 _ rfl; (with_reducible repeat (first | refine blk_drewN ?_ _ | refine blk_drew ?_ | refine blk_alloc ?_ _)); refine blk_put (cs := #[.slice none 0 0, .int .i64 0]) ?_ 0 _ rfl; (with_reducible repeat (first | refine blk_drewN ?_ _ | refine blk_drew ?_ | refine blk_alloc ?_ _)); exact BK149.out) Try.underlying80 rfl (by kernel_rfl)) rfl ?_
  exact ⟨_, by first | rfl | (simp [errW_none, errW_some] <;> rfl) | (simp [*, errW_none, errW_some] <;> rfl), by first | exact Kd.R_nil _ _ _ _ _ | exact Kd.N_nil _ _ _ _ _ | exact Kd.V_nil _ _ _ _ _ | exact Kd.Q_nil _ _ _ _ _ | exact Kd.S_nil _ _ _ _ _, by repeat (first | (with_reducible first | exact HB.out | apply below_alloc | apply pw_below_drewN | apply below_drew1 | refine below_set ?_ GE149.out) | exact HB.out)⟩


/-! ### cmp_isNaN_uint64: function 149 -/
-- by hand
theorem cmp_isNaN_uint64.calls (x : Int) (w : World) : Calls Try.prog 149 #[.int .u64 x] w fun e w' => e = .returned (.bool false) ∧ w' = w := by
  go_enter Try.func149, Try.ntmps149
  go_wp2
  go_ret
  exact ⟨by simp, rfl⟩


/-! ### cmp_Less_uint64: function 134 -/
-- by hand
theorem cmp_Less_uint64.calls (x y : Int) (w : World) : Calls Try.prog 134 #[.int .u64 x, .int .u64 y] w fun e w' => e = .returned (.bool (Go.Sort.ltInt x y)) ∧ w' = w := by
  go_enter Try.func134, Try.ntmps134
  go_wp2_with (go_at_call 149; refine (cmp_isNaN_uint64.calls _ _).mono ?_; rintro e w' ⟨rfl, rfl⟩)
  go_ret
  exact ⟨rfl, rfl⟩


/-! ### slices_insertionSortOrdered_uint64: function 128 -/
-- by hand
set_option maxRecDepth 100000 in
set_option maxHeartbeats 4000000 in
theorem slices_insertionSortOrdered_uint64.calls {A off cap a b : Nat} {T : TypeId} {C : Array Value} {d : Array Int} {w : World} (hD : Srt.Dat w A off T C d) (hab : a ≤ b) (hb : b ≤ d.size) (hsz : d.size ≤ 1099511627776) :
    Calls Try.prog 128 #[.slice (some ⟨A, off, none⟩) d.size cap, .int .i64 (a : Int), .int .i64 (b : Int)] w fun e w' => e = .returned (.tuple #[]) ∧ Srt.Dat w' A off T C (Go.Sort.insertionSort Go.Sort.ltInt d a b) ∧ Srt.Only A w w' := by
  have HD := Aside0.mk hD
  obtain ⟨n, hn⟩ : ∃ n, n = d.size := ⟨_, rfl⟩
  have HN := Aside0.mk hn
  rw [← hn] at hb hsz ⊢
  clear hD hn
  have hw1 : wrap64 ((a : Int) + 1) = (a : Int) + 1 := by unfold wrap64; omega
  go_enter Try.func128, Try.ntmps128
  go_wp2
  go_loopg [6, 7] (b - a) (fun kq v6 v7 w' => ∃ (i : Nat) (di : Array Int), v6 = .int .i64 (i : Int) ∧ a < i ∧ b < i + kq + 1 ∧ i ≤ b + 1 ∧ Aside0 (di.size = n) ∧ Aside0 (Srt.Dat w' A off T C di) ∧ Aside0 (Srt.Only A w w') ∧ Aside0 (Go.Sort.insOuter Go.Sort.ltInt a b i di = Go.Sort.insOuter Go.Sort.ltInt a b (a + 1) d))
  case atStart => exact ⟨a + 1, d, by go_num, by omega, by omega, by omega, ⟨HN.out.symm⟩, HD, ⟨Mut.refl _ _⟩, ⟨rfl⟩⟩
  case round =>
    obtain ⟨i, di, rfl, hai, hk, hib, HS, HDi, HO, HE⟩ := hrel
    by_cases hlt : i < b
    · obtain ⟨k1, rfl⟩ : ∃ k1, gk = k1 + 1 := ⟨gk - 1, by omega⟩
      go_wp2
      go_loopg [7] i (fun kj v7 w' => ∃ (j : Nat) (dj : Array Int), v7 = .int .i64 (j : Int) ∧ kj = j ∧ a ≤ j ∧ j ≤ i ∧ Aside0 (dj.size = n) ∧ Aside0 (Srt.Dat w' A off T C dj) ∧ Aside0 (Srt.Only A w w') ∧ Aside0 (Go.Sort.insInner Go.Sort.ltInt a j dj = Go.Sort.insInner Go.Sort.ltInt a i di))
      case atStart => exact ⟨i, di, rfl, rfl, by omega, Nat.le_refl _, HS, HDi, HO, ⟨rfl⟩⟩
      case round =>
        obtain ⟨j, dj, rfl, rfl, haj, hji, HSj, HDj, HOj, HEj⟩ := hrel
        by_cases hja : a < gk
        · obtain ⟨m, rfl⟩ : ∃ m, gk = m + 1 := ⟨gk - 1, by omega⟩
          rw [show ((m + 1 : Nat) : Int) = (m : Int) + 1 from rfl]
          have hX := HDj.out.cell (i := m + 1) (by rw [HSj.out]; omega)
          have hY := HDj.out.cell (i := m) (by rw [HSj.out]; omega)
          have hF := fun k => HDj.out.frozen k
          obtain ⟨X, hX0⟩ : ∃ X, X = dj[m + 1]! := ⟨_, rfl⟩
          obtain ⟨Y, hY0⟩ : ∃ Y, Y = dj[m]! := ⟨_, rfl⟩
          rw [← hX0] at hX
          rw [← hY0] at hY
          have HX := Aside0.mk hX0
          have HY := Aside0.mk hY0
          clear hX0 hY0
          have b1 : decide ((a : Int) < (m : Int) + 1) = true := decide_eq_true (by omega)
          have e1 : IntKind.i64.wrap ((m : Int) + 1 - 1) = (m : Int) := by rw [IntKind.wrap_i64]; omega
          have m0 : (0 : Int) ≤ (m : Int) := by omega
          have m1 : (m : Int) + 1 < (n : Int) := by omega
          cases hl : Go.Sort.ltInt X Y with
          | true =>
            go_wp2
            go_quiet ((go_at_call 134; exact Calls.quiet_of_same (cmp_Less_uint64.calls _ _ _)))
            go_wp2
            have hD1 := HDj.out.drewN nq
            have hO1 := HOj.out.drewN nq
            generalize wr.drewN nq = W1 at hD1 hO1 ⊢
            have hX1 := hD1.cell (i := m + 1) (by rw [HSj.out]; omega)
            have hY1 := hD1.cell (i := m) (by rw [HSj.out]; omega)
            have hF1 := fun k => hD1.frozen k
            rw [← HX.out] at hX1
            rw [← HY.out] at hY1
            have HD1 := Aside0.mk hD1
            have HO1 := Aside0.mk hO1
            clear hD1 hO1 hX hY hF
            go_region
            go_wp2
            have hsw := HD1.out.drew.swap (i := m + 1) (j := m) (by rw [HSj.out]; omega) (by rw [HSj.out]; omega)
            rw [← HX.out, ← HY.out] at hsw
            have HSW := Aside0.mk hsw
            clear hsw
            go_roundg m
            case measure => omega
            case rel => exact ⟨m, Go.Sort.swp dj (m + 1) m, rfl, rfl, by omega, by omega, ⟨by rw [Srt.swp_size, HSj.out]⟩, HSW, ⟨Srt.only_swap HO1.out.drew _ _ _ _⟩, ⟨by rw [← HEj.out, Srt.insInner_go (by omega) (by rw [← HX.out, ← HY.out]; exact hl)]⟩⟩
          | false =>
            go_wp2
            go_quiet ((go_at_call 134; exact Calls.quiet_of_same (cmp_Less_uint64.calls _ _ _)))
            have hii : (i : Int) < 1099511627776 := by omega
            go_wp2
            go_roundg k1
            case measure => omega
            case rel =>
              refine ⟨i + 1, dj, by go_num, by omega, by omega, by omega, HSj, ⟨HDj.out.drewN _⟩, ⟨HOj.out.drewN _⟩, ⟨?_⟩⟩
              rw [← HE.out, Srt.insOuter_go hlt, ← HEj.out, Srt.insInner_no (by rw [← HX.out, ← HY.out]; exact hl)]
        · obtain rfl : gk = a := by omega
          have b1 : decide ((gk : Int) < (gk : Int)) = false := decide_eq_false (by omega)
          have hii : (i : Int) < 1099511627776 := by omega
          go_wp2
          go_quiet (fail)
          go_wp2
          go_roundg k1
          case measure => omega
          case rel =>
            refine ⟨i + 1, dj, by go_num, by omega, by omega, by omega, HSj, ⟨HDj.out.drewN _⟩, ⟨HOj.out.drewN _⟩, ⟨?_⟩⟩
            rw [← HE.out, Srt.insOuter_go hlt, ← HEj.out, Srt.insInner_end (Nat.le_refl _)]
    · go_wp2
      go_end0
      exact ⟨rfl, by unfold Go.Sort.insertionSort; rw [← HE.out, Srt.insOuter_end (by omega)]; exact HDi.out, HO.out⟩
set_option maxRecDepth 100000 in
set_option maxHeartbeats 4000000 in
theorem slices_insertionSortOrdered_uint64.nil (w : World) : Calls Try.prog 128 #[.slice none 0 0, .int .i64 0, .int .i64 0] w fun e w' => e = .returned (.tuple #[]) ∧ w' = w := by
  go_enter Try.func128, Try.ntmps128
  go_wp2
  go_loopg [6, 7] 0 (fun kq v6 v7 w' => v6 = .int .i64 1 ∧ w' = w)
  case atStart => exact ⟨rfl, rfl⟩
  case round =>
    obtain ⟨rfl, rfl⟩ := hrel
    go_wp2
    go_end0
    exact ⟨rfl, rfl⟩


/-! ### slices_siftDownOrdered_uint64: function 144 -/
-- by hand
set_option maxRecDepth 100000 in
set_option maxHeartbeats 8000000 in
theorem slices_siftDownOrdered_uint64.calls {A off cap lo hi F : Nat} {T : TypeId} {C : Array Value} {d : Array Int} {w : World} (hD : Srt.Dat w A off T C d) (hb : F + hi ≤ d.size) (hsz : d.size ≤ 1099511627776) (hlo : lo ≤ hi) :
    Calls Try.prog 144 #[.slice (some ⟨A, off, none⟩) d.size cap, .int .i64 (lo : Int), .int .i64 (hi : Int), .int .i64 (F : Int)] w fun e w' => e = .returned (.tuple #[]) ∧ Srt.Dat w' A off T C (Go.Sort.siftDown Go.Sort.ltInt hi F lo d) ∧ Srt.Only A w w' := by
  have HD := Aside0.mk hD
  obtain ⟨n, hn⟩ : ∃ n, n = d.size := ⟨_, rfl⟩
  have HN := Aside0.mk hn
  rw [← hn] at hb hsz ⊢
  clear hD hn
  go_enter Try.func144, Try.ntmps144
  go_wp2
  go_loopg [8, 9] (hi - lo + 1) (fun kq v8 v9 w' => ∃ (r : Nat) (dr : Array Int), v8 = .int .i64 (r : Int) ∧ hi < r + kq + 1 ∧ r ≤ hi ∧ Aside0 (dr.size = n) ∧ Aside0 (Srt.Dat w' A off T C dr) ∧ Aside0 (Srt.Only A w w') ∧ Aside0 (Go.Sort.siftDown Go.Sort.ltInt hi F r dr = Go.Sort.siftDown Go.Sort.ltInt hi F lo d))
  case atStart => exact ⟨lo, d, rfl, by omega, hlo, ⟨HN.out.symm⟩, HD, ⟨Mut.refl _ _⟩, ⟨rfl⟩⟩
  case round =>
    obtain ⟨r, dr, rfl, hk, hr, HS, HDr, HO, HE⟩ := hrel
    have hr0 : (0 : Int) ≤ (r : Int) := by omega
    have hr1 : (r : Int) ≤ 1099511627776 := by omega
    have hF0 : (0 : Int) ≤ (F : Int) := by omega
    have hF1 : (F : Int) ≤ 1099511627776 := by omega
    by_cases hend : hi ≤ 2 * r + 1
    · have b1 : decide ((hi : Int) ≤ 2 * (r : Int) + 1) = true := decide_eq_true (by omega)
      go_wp2
      go_end0
      exact ⟨rfl, by rw [← HE.out, Srt.sift_end hend]; exact HDr.out, HO.out⟩
    · have b1 : decide ((hi : Int) ≤ 2 * (r : Int) + 1) = false := decide_eq_false (by omega)
      obtain ⟨k1, rfl⟩ : ∃ k1, gk = k1 + 1 := ⟨gk - 1, by omega⟩
      have hX := HDr.out.cell (i := F + r) (by rw [HS.out]; omega)
      have hY := HDr.out.cell (i := F + (2 * r + 1)) (by rw [HS.out]; omega)
      have hXn := fun nd => (HDr.out.drewN nd).cell (i := F + r) (by rw [HS.out]; omega)
      have hYn := fun nd => (HDr.out.drewN nd).cell (i := F + (2 * r + 1)) (by rw [HS.out]; omega)
      have hFz := fun k => HDr.out.frozen k
      obtain ⟨X, hX0⟩ : ∃ X, X = dr[F + r]! := ⟨_, rfl⟩
      obtain ⟨Y, hY0⟩ : ∃ Y, Y = dr[F + (2 * r + 1)]! := ⟨_, rfl⟩
      rw [← hX0] at hX
      rw [← hY0] at hY
      have HX := Aside0.mk hX0
      have HY := Aside0.mk hY0
      simp only [← hX0] at hXn
      simp only [← hY0] at hYn
      clear hX0 hY0
      have e1 : IntKind.i64.wrap (2 * (r : Int)) = 2 * (r : Int) := by rw [IntKind.wrap_i64]; omega
      have e2 : IntKind.i64.wrap (2 * (r : Int) + 1) = 2 * (r : Int) + 1 := by rw [IntKind.wrap_i64]; omega
      have e3 : IntKind.i64.wrap ((F : Int) + (r : Int)) = (F : Int) + (r : Int) := by rw [IntKind.wrap_i64]; omega
      have e4 : IntKind.i64.wrap ((F : Int) + (2 * (r : Int) + 1)) = (F : Int) + (2 * (r : Int) + 1) := by rw [IntKind.wrap_i64]; omega
      have e5 : IntKind.i64.wrap (2 * (r : Int) + 1 + 1) = 2 * (r : Int) + 1 + 1 := by rw [IntKind.wrap_i64]; omega
      have n1 : (F : Int) + (r : Int) < (n : Int) := by omega
      have n2 : (F : Int) + (2 * (r : Int) + 1) < (n : Int) := by omega
      have t1 : ((F : Int) + (r : Int)).toNat = F + r := by omega
      have t2 : ((F : Int) + (2 * (r : Int) + 1)).toNat = F + (2 * r + 1) := by omega
      by_cases h2 : 2 * r + 2 < hi
      · have b2 : decide (2 * (r : Int) + 1 + 1 < (hi : Int)) = true := decide_eq_true (by omega)
        have hZ := HDr.out.cell (i := F + (2 * r + 1) + 1) (by rw [HS.out]; omega)
        have hZn := fun nd => (HDr.out.drewN nd).cell (i := F + (2 * r + 1) + 1) (by rw [HS.out]; omega)
        obtain ⟨Z, hZ0⟩ : ∃ Z, Z = dr[F + (2 * r + 1) + 1]! := ⟨_, rfl⟩
        rw [← hZ0] at hZ
        simp only [← hZ0] at hZn
        have HZ := Aside0.mk hZ0
        clear hZ0
        have n3 : (F : Int) + (2 * (r : Int) + 1) + 1 < (n : Int) := by omega
        have t3 : ((F : Int) + (2 * (r : Int) + 1) + 1).toNat = F + (2 * r + 1) + 1 := by omega
        have e6 : IntKind.i64.wrap ((F : Int) + (2 * (r : Int) + 1) + 1) = (F : Int) + (2 * (r : Int) + 1) + 1 := by rw [IntKind.wrap_i64]; omega
        have e7 : IntKind.i64.wrap ((F : Int) + (2 * (r : Int) + 1 + 1)) = (F : Int) + (2 * (r : Int) + 1) + 1 := by rw [IntKind.wrap_i64]; omega
        cases hl : Go.Sort.ltInt Y Z with
        | true =>
          go_wp2
          go_quiet ((go_at_call 134; exact Calls.quiet_of_same (cmp_Less_uint64.calls _ _ _)))
          have hD1 := HDr.out.drewN nq
          have hO1 := HO.out.drewN nq
          generalize wr.drewN nq = W1 at hD1 hO1 ⊢
          have hX1 := hD1.cell (i := F + r) (by rw [HS.out]; omega)
          rw [← HX.out] at hX1
          have hV1 := hD1.cell (i := F + (2 * r + 1) + 1) (by rw [HS.out]; omega)
          rw [← HZ.out] at hV1
          have hF1 := fun k => hD1.frozen k
          have HD1 := Aside0.mk hD1
          have HO1 := Aside0.mk hO1
          clear hD1 hO1 hX hY hXn hYn hFz hZ hZn
          cases hl2 : Go.Sort.ltInt X Z with
          | true =>
            go_wp2
            go_quiet ((go_at_call 134; exact Calls.quiet_of_same (cmp_Less_uint64.calls _ _ _)))
            have hD2 := HD1.out.drewN nq
            have hO2 := HO1.out.drewN nq
            generalize W1.drewN nq = W2 at hD2 hO2 ⊢
            have hX2 := hD2.cell (i := F + r) (by rw [HS.out]; omega)
            rw [← HX.out] at hX2
            have hV2 := hD2.cell (i := F + (2 * r + 1) + 1) (by rw [HS.out]; omega)
            rw [← HZ.out] at hV2
            have hF2 := fun k => hD2.frozen k
            have HD2 := Aside0.mk hD2
            have HO2 := Aside0.mk hO2
            clear hD2 hO2 hX1 hV1 hF1
            go_wp2
            go_region
            go_wp2
            have hsw := HD2.out.drew.swap (i := F + r) (j := F + (2 * r + 1) + 1) (by rw [HS.out]; omega) (by rw [HS.out]; omega)
            rw [← HX.out, ← HZ.out] at hsw
            have HSW := Aside0.mk hsw
            clear hsw
            go_roundg k1
            case measure => omega
            case rel => exact ⟨2 * r + 2, Go.Sort.swp dr (F + r) (F + (2 * r + 1) + 1), by go_num, by omega, by omega, ⟨by rw [Srt.swp_size, HS.out]⟩, HSW, ⟨Srt.only_swap HO2.out.drew _ _ _ _⟩, ⟨by rw [← HE.out, Srt.sift_eq (r := r) (d := dr) (c := 2 * r + 2) (by omega) (by left; exact ⟨rfl, h2, by rw [← HY.out, ← HZ.out]; exact hl⟩), if_pos (show Go.Sort.ltInt dr[F + r]! dr[F + (2 * r + 2)]! = true by rw [← HX.out, show F + (2 * r + 2) = F + (2 * r + 1) + 1 from by omega, ← HZ.out]; exact hl2)]; try rfl⟩⟩
          | false =>
            go_wp2
            go_quiet ((go_at_call 134; exact Calls.quiet_of_same (cmp_Less_uint64.calls _ _ _)))
            go_wp2
            refine bodyPost_ret (results_none rfl _ _ _) rfl ?_
            exact ⟨rfl, by rw [← HE.out, Srt.sift_eq (r := r) (d := dr) (c := 2 * r + 2) (by omega) (by left; exact ⟨rfl, h2, by rw [← HY.out, ← HZ.out]; exact hl⟩), if_neg (show ¬ Go.Sort.ltInt dr[F + r]! dr[F + (2 * r + 2)]! = true by rw [← HX.out, show F + (2 * r + 2) = F + (2 * r + 1) + 1 from by omega, ← HZ.out]; simp [hl2])]; exact HD1.out.drewN _, HO1.out.drewN _⟩
        | false =>
          go_wp2
          go_quiet ((go_at_call 134; exact Calls.quiet_of_same (cmp_Less_uint64.calls _ _ _)))
          have hD1 := HDr.out.drewN nq
          have hO1 := HO.out.drewN nq
          generalize wr.drewN nq = W1 at hD1 hO1 ⊢
          have hX1 := hD1.cell (i := F + r) (by rw [HS.out]; omega)
          rw [← HX.out] at hX1
          have hV1 := hD1.cell (i := F + (2 * r + 1)) (by rw [HS.out]; omega)
          rw [← HY.out] at hV1
          have hF1 := fun k => hD1.frozen k
          have HD1 := Aside0.mk hD1
          have HO1 := Aside0.mk hO1
          clear hD1 hO1 hX hY hXn hYn hFz hZ hZn
          cases hl2 : Go.Sort.ltInt X Y with
          | true =>
            go_wp2
            go_quiet ((go_at_call 134; exact Calls.quiet_of_same (cmp_Less_uint64.calls _ _ _)))
            have hD2 := HD1.out.drewN nq
            have hO2 := HO1.out.drewN nq
            generalize W1.drewN nq = W2 at hD2 hO2 ⊢
            have hX2 := hD2.cell (i := F + r) (by rw [HS.out]; omega)
            rw [← HX.out] at hX2
            have hV2 := hD2.cell (i := F + (2 * r + 1)) (by rw [HS.out]; omega)
            rw [← HY.out] at hV2
            have hF2 := fun k => hD2.frozen k
            have HD2 := Aside0.mk hD2
            have HO2 := Aside0.mk hO2
            clear hD2 hO2 hX1 hV1 hF1
            go_wp2
            go_region
            go_wp2
            have hsw := HD2.out.drew.swap (i := F + r) (j := F + (2 * r + 1)) (by rw [HS.out]; omega) (by rw [HS.out]; omega)
            rw [← HX.out, ← HY.out] at hsw
            have HSW := Aside0.mk hsw
            clear hsw
            go_roundg k1
            case measure => omega
            case rel => exact ⟨2 * r + 1, Go.Sort.swp dr (F + r) (F + (2 * r + 1)), by go_num, by omega, by omega, ⟨by rw [Srt.swp_size, HS.out]⟩, HSW, ⟨Srt.only_swap HO2.out.drew _ _ _ _⟩, ⟨by rw [← HE.out, Srt.sift_eq (r := r) (d := dr) (c := 2 * r + 1) (by omega) (by right; exact ⟨rfl, fun h => by rw [← HY.out, ← HZ.out, hl] at h; exact absurd h.2 (by simp)⟩), if_pos (show Go.Sort.ltInt dr[F + r]! dr[F + (2 * r + 1)]! = true by rw [← HX.out, show F + (2 * r + 1) = F + (2 * r + 1) from by omega, ← HY.out]; exact hl2)]; try rfl⟩⟩
          | false =>
            go_wp2
            go_quiet ((go_at_call 134; exact Calls.quiet_of_same (cmp_Less_uint64.calls _ _ _)))
            go_wp2
            refine bodyPost_ret (results_none rfl _ _ _) rfl ?_
            exact ⟨rfl, by rw [← HE.out, Srt.sift_eq (r := r) (d := dr) (c := 2 * r + 1) (by omega) (by right; exact ⟨rfl, fun h => by rw [← HY.out, ← HZ.out, hl] at h; exact absurd h.2 (by simp)⟩), if_neg (show ¬ Go.Sort.ltInt dr[F + r]! dr[F + (2 * r + 1)]! = true by rw [← HX.out, show F + (2 * r + 1) = F + (2 * r + 1) from by omega, ← HY.out]; simp [hl2])]; exact HD1.out.drewN _, HO1.out.drewN _⟩
      · have b2 : decide (2 * (r : Int) + 1 + 1 < (hi : Int)) = false := decide_eq_false (by omega)
        go_wp2
        go_quiet (fail)
        have hD1 := HDr.out.drewN nq
        have hO1 := HO.out.drewN nq
        generalize wr.drewN nq = W1 at hD1 hO1 ⊢
        have hX1 := hD1.cell (i := F + r) (by rw [HS.out]; omega)
        rw [← HX.out] at hX1
        have hV1 := hD1.cell (i := F + (2 * r + 1)) (by rw [HS.out]; omega)
        rw [← HY.out] at hV1
        have hF1 := fun k => hD1.frozen k
        have HD1 := Aside0.mk hD1
        have HO1 := Aside0.mk hO1
        clear hD1 hO1 hX hY hXn hYn hFz
        cases hl2 : Go.Sort.ltInt X Y with
        | true =>
          go_wp2
          go_quiet ((go_at_call 134; exact Calls.quiet_of_same (cmp_Less_uint64.calls _ _ _)))
          have hD2 := HD1.out.drewN nq
          have hO2 := HO1.out.drewN nq
          generalize W1.drewN nq = W2 at hD2 hO2 ⊢
          have hX2 := hD2.cell (i := F + r) (by rw [HS.out]; omega)
          rw [← HX.out] at hX2
          have hV2 := hD2.cell (i := F + (2 * r + 1)) (by rw [HS.out]; omega)
          rw [← HY.out] at hV2
          have hF2 := fun k => hD2.frozen k
          have HD2 := Aside0.mk hD2
          have HO2 := Aside0.mk hO2
          clear hD2 hO2 hX1 hV1 hF1
          go_wp2
          go_region
          go_wp2
          have hsw := HD2.out.drew.swap (i := F + r) (j := F + (2 * r + 1)) (by rw [HS.out]; omega) (by rw [HS.out]; omega)
          rw [← HX.out, ← HY.out] at hsw
          have HSW := Aside0.mk hsw
          clear hsw
          go_roundg k1
          case measure => omega
          case rel => exact ⟨2 * r + 1, Go.Sort.swp dr (F + r) (F + (2 * r + 1)), by go_num, by omega, by omega, ⟨by rw [Srt.swp_size, HS.out]⟩, HSW, ⟨Srt.only_swap HO2.out.drew _ _ _ _⟩, ⟨by rw [← HE.out, Srt.sift_eq (r := r) (d := dr) (c := 2 * r + 1) (by omega) (by right; exact ⟨rfl, fun h => h2 h.1⟩), if_pos (show Go.Sort.ltInt dr[F + r]! dr[F + (2 * r + 1)]! = true by rw [← HX.out, show F + (2 * r + 1) = F + (2 * r + 1) from by omega, ← HY.out]; exact hl2)]; try rfl⟩⟩
        | false =>
          go_wp2
          go_quiet ((go_at_call 134; exact Calls.quiet_of_same (cmp_Less_uint64.calls _ _ _)))
          go_wp2
          refine bodyPost_ret (results_none rfl _ _ _) rfl ?_
          exact ⟨rfl, by rw [← HE.out, Srt.sift_eq (r := r) (d := dr) (c := 2 * r + 1) (by omega) (by right; exact ⟨rfl, fun h => h2 h.1⟩), if_neg (show ¬ Go.Sort.ltInt dr[F + r]! dr[F + (2 * r + 1)]! = true by rw [← HX.out, show F + (2 * r + 1) = F + (2 * r + 1) from by omega, ← HY.out]; simp [hl2])]; exact HD1.out.drewN _, HO1.out.drewN _⟩

end Go.Proofs.Ytdjbpdahdakfjaa.PLook
