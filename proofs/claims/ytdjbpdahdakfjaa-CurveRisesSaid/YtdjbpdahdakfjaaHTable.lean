/- A table: slots that are, slots that were; how it lies in memory, and what holds of it. -/
import Derived.Test.YtdjbpdahdakfjaaHProbe
import Derived.Laws.MakeOwn
namespace Go.Proofs.YtdjbpdahdakfjaaH.Tab
open Go.RowKit Go.Proofs.YtdjbpdahdakfjaaW.PrintWords
set_option linter.unusedVariables false

structure Tb where
  now : Rw
  old : Rw
  frm : Nat
  moves : Int
def none_ : Rw := ⟨0, none, [], 0⟩
def Tb.foot (g : Nat) (t : Tb) : Foot := fun k => k = g ∨ t.now.adr = some k ∨ t.old.adr = some k
/-- A table lies at g: its block's cells are cs. -/
structure TbAt (e T : TypeId) (w : World) (g : Nat) (cs : Array Value) (t : Tb) : Prop where
  now : RwAt e T w g 0 cs t.now
  old : RwAt e T w g 3 cs t.old
  frm : cs[6]? = some (.int .i64 (t.frm : Int))
  mov : cs[7]? = some (.int .u64 t.moves)
  ne : ∀ A, t.now.adr = some A → t.old.adr ≠ some A
/-- How many keys there are. -/
def Tb.len (t : Tb) : Nat := cnt t.now.sl + cnt t.old.sl
def Tb.has (t : Tb) (key node : Int) : Prop := Has t.now.sl key node ∨ Has t.old.sl key node
/-- What holds of the slots that were: they fit, those ahead of 'from' are free, and no key is in both. -/
structure Old (home : Nat → Int → Nat) (t : Tb) : Prop where
  fit : Fit t.old
  inv : Inv (home t.old.bits) t.old.sl
  many : t.old.many = (cnt t.old.sl : Int)
  past : ∀ q, q < t.frm → (at_ t.old.sl q).t = false
  frm : t.frm ≤ t.old.sl.length
  len : t.now.sl.length = 2 * t.old.sl.length
  apart : ∀ k a b, Has t.now.sl k a → ¬ Has t.old.sl k b
/-- What holds of a table, with so many keys to spare. -/
structure TInv (home : Nat → Int → Nat) (slack : Nat) (t : Tb) : Prop where
  fit : Fit t.now
  inv : Inv (home t.now.bits) t.now.sl
  many : t.now.many = (cnt t.now.sl : Int)
  old : (t.old = none_ ∧ t.frm = 0) ∨ Old home t
  load : 2 * t.len ≤ t.now.sl.length
  pot : 0 < cnt t.old.sl → 8 * t.len + 2 * cnt t.old.sl ≤ 5 * t.old.sl.length + slack
theorem TbAt.drewN {e T : TypeId} {w : World} {g : Nat} {cs : Array Value} {t : Tb} (h : TbAt e T w g cs t) (n : Nat) : TbAt e T (w.drewN n) g cs t := ⟨h.now.drewN n, h.old.drewN n, h.frm, h.mov, h.ne⟩
theorem TbAt.drew {e T : TypeId} {w : World} {g : Nat} {cs : Array Value} {t : Tb} (h : TbAt e T w g cs t) : TbAt e T w.drew g cs t := ⟨h.now.drew, h.old.drew, h.frm, h.mov, h.ne⟩
theorem RwAt.far {e T : TypeId} {w w' : World} {g o : Nat} {cs : Array Value} {r : Rw} (h : RwAt e T w g o cs r) (hg : w'.heap[g]? = w.heap[g]?) (hA : ∀ A, r.adr = some A → w'.heap[A]? = w.heap[A]?) : RwAt e T w' g o cs r :=
  ⟨hg.trans h.blk, h.c0, h.c1, h.c2, fun A h' => ⟨(h.arr A h').1.far (hA A h'), (h.arr A h').2⟩, h.non⟩
/-- What writes none of its blocks leaves it. -/
theorem TbAt.far {e T : TypeId} {w w' : World} {g : Nat} {cs : Array Value} {t : Tb} (h : TbAt e T w g cs t) (hf : ∀ k, t.foot g k → w'.heap[k]? = w.heap[k]?) : TbAt e T w' g cs t :=
  ⟨h.now.far (hf g (.inl rfl)) (fun A hA => hf A (.inr (.inl hA))), h.old.far (hf g (.inl rfl)) (fun A hA => hf A (.inr (.inr hA))), h.frm, h.mov, h.ne⟩
theorem TbAt.lt {e T : TypeId} {w : World} {g : Nat} {cs : Array Value} {t : Tb} (h : TbAt e T w g cs t) (k : Nat) (hk : t.foot g k) : k < w.heap.size := by
  rcases hk with rfl | hk | hk
  · exact blk_lt h.now.blk
  · exact (h.now.arr k hk).1.lt
  · exact (h.old.arr k hk).1.lt
theorem TbAt.mut {e T : TypeId} {w w' : World} {g : Nat} {cs : Array Value} {t : Tb} {F F' : Foot} (h : TbAt e T w g cs t) (hm : Mut F w F' w') (hf : ∀ k, t.foot g k → ¬ F k) : TbAt e T w' g cs t :=
  h.far (fun k hk => hm.block k (h.lt k hk) (hf k hk))
/-- One of the two has been written (at o), the other one lies as it lay. -/
theorem RwAt.other {e T : TypeId} {w w' : World} {g o o' : Nat} {cs cs' : Array Value} {r r' : Rw} (h : RwAt e T w g o cs r) (ho : o + 2 < o' ∨ o' + 2 < o) (h' : RwAt e T w' g o' cs' r') (hcs : ∀ j, j ≠ o' + 2 → cs'[j]? = cs[j]?)
    (hA : ∀ A, r.adr = some A → w'.heap[A]? = w.heap[A]?) : RwAt e T w' g o cs' r :=
  ⟨h'.blk, (hcs o (by omega)).trans h.c0, (hcs (o + 1) (by omega)).trans h.c1, (hcs (o + 2) (by omega)).trans h.c2, fun A hA' => ⟨(h.arr A hA').1.far (hA A hA'), (h.arr A hA').2⟩, h.non⟩
theorem TbAt.now_ {e T : TypeId} {w w' : World} {g : Nat} {cs cs' : Array Value} {t : Tb} {r : Rw} (h : TbAt e T w g cs t) (h' : RwAt e T w' g 0 cs' r) (ha : r.adr = t.now.adr) (hcs : ∀ j, j ≠ 2 → cs'[j]? = cs[j]?) (hm : Mut (Rw.foot g t.now) w (Rw.foot g t.now) w') :
    TbAt e T w' g cs' { t with now := r } ∧ Mut (t.foot g) w (t.foot g) w' := by
  refine ⟨⟨h', h.old.other (.inr (by omega)) h' (by simpa using hcs) (fun A hA => hm.block A (h.old.arr A hA).1.lt ?_), (hcs 6 (by decide)).trans h.frm, (hcs 7 (by decide)).trans h.mov, fun A hA => h.ne A (ha ▸ hA)⟩, (hm.mono (fun k hk => ?_)).foots (fun k hk => .inl hk)⟩
  · rintro (rfl | hf)
    · exact (h.old.arr _ hA).2 rfl
    · exact h.ne A hf hA
  · exact hk.imp id .inl
theorem TbAt.old_ {e T : TypeId} {w w' : World} {g : Nat} {cs cs' : Array Value} {t : Tb} {r : Rw} (h : TbAt e T w g cs t) (h' : RwAt e T w' g 3 cs' r) (ha : r.adr = t.old.adr) (hcs : ∀ j, j ≠ 5 → cs'[j]? = cs[j]?) (hm : Mut (Rw.foot g t.old) w (Rw.foot g t.old) w') :
    TbAt e T w' g cs' { t with old := r } ∧ Mut (t.foot g) w (t.foot g) w' := by
  refine ⟨⟨h.now.other (.inl (by omega)) h' (by simpa using hcs) (fun A hA => hm.block A (h.now.arr A hA).1.lt ?_), h', (hcs 6 (by decide)).trans h.frm, (hcs 7 (by decide)).trans h.mov, fun A hA => by rw [ha]; exact h.ne A hA⟩, (hm.mono (fun k hk => ?_)).foots (fun k hk => .inl hk)⟩
  · rintro (rfl | hf)
    · exact (h.now.arr _ hA).2 rfl
    · exact h.ne A hA hf
  · exact hk.imp id .inr
theorem RwAt.cellset {e T : TypeId} {w : World} {g o i : Nat} {cs : Array Value} {r : Rw} (h : RwAt e T w g o cs r) (hi : i < o ∨ o + 2 < i) (v : Value) : RwAt e T (w.setCell ⟨g, i, none⟩ v) g o (cs.setIfInBounds i v) r :=
  ⟨blk_set h.blk _ _, by rw [Array.getElem?_setIfInBounds_ne (by omega)]; exact h.c0, by rw [Array.getElem?_setIfInBounds_ne (by omega)]; exact h.c1, by rw [Array.getElem?_setIfInBounds_ne (by omega)]; exact h.c2,
    fun A hA => ⟨(h.arr A hA).1.far (Below.heap_setCell w _ _ A (h.arr A hA).2), (h.arr A hA).2⟩, h.non⟩
theorem TbAt.frm_ {e T : TypeId} {w : World} {g : Nat} {cs : Array Value} {t : Tb} (h : TbAt e T w g cs t) (n : Nat) :
    TbAt e T (w.setCell ⟨g, 6, none⟩ (.int .i64 (n : Int))) g (cs.setIfInBounds 6 (.int .i64 (n : Int))) { t with frm := n } ∧ Mut (t.foot g) w (t.foot g) (w.setCell ⟨g, 6, none⟩ (.int .i64 (n : Int))) := by
  have hl : 6 < cs.size := (Array.getElem?_eq_some_iff.1 h.frm).1
  exact ⟨⟨h.now.cellset (.inr (by decide)) _, h.old.cellset (.inr (by decide)) _, by rw [Array.getElem?_setIfInBounds_self_of_lt hl], by rw [Array.getElem?_setIfInBounds_ne (by decide)]; exact h.mov, h.ne⟩, (Mut.refl _ w).set (p := ⟨g, 6, none⟩) (.inl rfl) _⟩
theorem TbAt.mov_ {e T : TypeId} {w : World} {g : Nat} {cs : Array Value} {t : Tb} (h : TbAt e T w g cs t) (n : Int) :
    TbAt e T (w.setCell ⟨g, 7, none⟩ (.int .u64 n)) g (cs.setIfInBounds 7 (.int .u64 n)) { t with moves := n } ∧ Mut (t.foot g) w (t.foot g) (w.setCell ⟨g, 7, none⟩ (.int .u64 n)) := by
  have hl : 7 < cs.size := (Array.getElem?_eq_some_iff.1 h.mov).1
  exact ⟨⟨h.now.cellset (.inr (by decide)) _, h.old.cellset (.inr (by decide)) _, by rw [Array.getElem?_setIfInBounds_ne (by decide)]; exact h.frm, by rw [Array.getElem?_setIfInBounds_self_of_lt hl], h.ne⟩, (Mut.refl _ w).set (p := ⟨g, 7, none⟩) (.inl rfl) _⟩
/-- The slots that were are none any more. -/
theorem TbAt.drop_ {e T : TypeId} {w : World} {g : Nat} {cs : Array Value} {t : Tb} (h : TbAt e T w g cs t) :
    ∃ cs', TbAt e T ((w.setCells g 3 [.int .i64 0, .slice none 0 0, .int .i64 0]).setCell ⟨g, 6, none⟩ (.int .i64 0)) g cs' { t with old := none_, frm := 0 } ∧ Mut (t.foot g) w (Tb.foot g { t with old := none_, frm := 0 }) ((w.setCells g 3 [.int .i64 0, .slice none 0 0, .int .i64 0]).setCell ⟨g, 6, none⟩ (.int .i64 0)) := by
  have hl : 7 < cs.size := (Array.getElem?_eq_some_iff.1 h.mov).1
  have hb : ((w.setCells g 3 [.int .i64 0, .slice none 0 0, .int .i64 0]).setCell ⟨g, 6, none⟩ (.int .i64 0)).heap[g]? = some (.cells ((((cs.setIfInBounds 3 (.int .i64 0)).setIfInBounds 4 (.slice none 0 0)).setIfInBounds 5 (.int .i64 0)).setIfInBounds 6 (.int .i64 0)) T (0, 0)) :=
    blk_set (blk_set (blk_set (blk_set h.now.blk 3 _) 4 _) 5 _) 6 _
  have hfar : ∀ k, k ≠ g → ((w.setCells g 3 [.int .i64 0, .slice none 0 0, .int .i64 0]).setCell ⟨g, 6, none⟩ (.int .i64 0)).heap[k]? = w.heap[k]? := fun k hk => (Below.heap_setCell _ ⟨g, 6, none⟩ _ k hk).trans (setCells_far _ _ k hk)
  obtain ⟨q1, q2, q3, q4⟩ := setCells_same g [.int .i64 0, .slice none 0 0, .int .i64 0] 3 w
  refine ⟨_, ⟨⟨hb, ?_, ?_, ?_, fun A hA => ⟨(h.now.arr A hA).1.far (hfar A (h.now.arr A hA).2), (h.now.arr A hA).2⟩, h.now.non⟩, ⟨hb, ?_, ?_, ?_, fun A hA => absurd hA (by simp [none_]), fun _ => rfl⟩, ?_, ?_, fun A _ => by simp [none_]⟩, ?_⟩
  · simp (disch := omega) only [Array.getElem?_setIfInBounds_ne]; exact h.now.c0
  · simp (disch := omega) only [Array.getElem?_setIfInBounds_ne]; exact h.now.c1
  · simp (disch := omega) only [Array.getElem?_setIfInBounds_ne]; exact h.now.c2
  · simp (disch := first | omega | (simp; omega)) only [Array.getElem?_setIfInBounds_ne, Array.getElem?_setIfInBounds_self_of_lt]; rfl
  · simp (disch := first | omega | (simp; omega)) only [Array.getElem?_setIfInBounds_ne, Array.getElem?_setIfInBounds_self_of_lt]; rfl
  · simp (disch := first | omega | (simp; omega)) only [Array.getElem?_setIfInBounds_ne, Array.getElem?_setIfInBounds_self_of_lt]; rfl
  · simp (disch := first | omega | (simp; omega)) only [Array.getElem?_setIfInBounds_ne, Array.getElem?_setIfInBounds_self_of_lt]; rfl
  · simp (disch := omega) only [Array.getElem?_setIfInBounds_ne]; exact h.mov
  · refine ⟨q1, q2, q3, ?_, fun k _ hk => hfar k (fun e => hk (.inl e)), fun k hk => ?_⟩
    · show _ ≤ ((w.setCells g 3 [.int .i64 0, .slice none 0 0, .int .i64 0]).setCell ⟨g, 6, none⟩ (.int .i64 0)).heap.size
      simp only [World.setCell, Array.size_modify] at q4 ⊢
      omega
    · rcases hk with hk | hk | hk
      · exact .inl (.inl hk)
      · exact .inl (.inr (.inl hk))
      · exact absurd hk (by simp [none_])
theorem Fit.bits_eq {a b : Rw} (ha : Fit a) (hb : Fit b) (h : a.sl.length = b.sl.length) : a.bits = b.bits := by
  rw [ha.len, hb.len] at h
  exact (Nat.pow_right_inj (by decide)).1 h
theorem not_has {s : List Sl} (h : cnt s = 0) (k v : Int) : ¬ Has s k v := by
  rintro ⟨p, hp, hat⟩
  have : 0 < cnt s := List.countP_pos_iff.2 ⟨s[p], List.getElem_mem hp, by rw [← at_eq hp, hat]⟩
  omega
theorem Has.mk {s : List Sl} {p : Nat} (hp : p < s.length) (ht : (at_ s p).t = true) : Has s (at_ s p).k (at_ s p).n :=
  ⟨p, hp, by cases h : at_ s p; rw [h] at ht; simp only at ht; rw [ht]⟩
/-- While keys are taken over. -/
structure MvInv (home : Nat → Int → Nat) (t t1 : Tb) (d : Nat) : Prop where
  fit : Fit t1.now
  inv : Inv (home t1.now.bits) t1.now.sl
  many : t1.now.many = (cnt t1.now.sl : Int)
  old : (t1.old = none_ ∧ t1.frm = 0) ∨ Old home t1
  cntO : cnt t1.old.sl + d = cnt t.old.sl
  len : t1.len = t.len
  has : ∀ k v, t1.has k v ↔ t.has k v
  moves : t1.moves = t.moves + d
  nl : t1.now.sl.length = t.now.sl.length
  ol : t1.old.sl.length = t.old.sl.length
  adr : t1.now.adr = t.now.adr ∧ t1.old.adr = t.old.adr
theorem MvInv.start {home : Nat → Int → Nat} {sl : Nat} {t : Tb} (h : TInv home sl t) : MvInv home t t 0 :=
  ⟨h.fit, h.inv, h.many, h.old, rfl, rfl, fun _ _ => Iff.rfl, by simp, rfl, rfl, rfl, rfl⟩
theorem MvInv.oldMany {home : Nat → Int → Nat} {t t1 : Tb} {d : Nat} (h : MvInv home t t1 d) : t1.old.many = (cnt t1.old.sl : Int) := by
  rcases h.old with ⟨h, _⟩ | h
  · rw [h]; rfl
  · exact h.many
theorem MvInv.isOld {home : Nat → Int → Nat} {t t1 : Tb} {d : Nat} (h : MvInv home t t1 d) (hp : 0 < cnt t1.old.sl) : Old home t1 := by
  rcases h.old with ⟨h, _⟩ | h
  · rw [h] at hp; exact absurd hp (by simp [none_, cnt])
  · exact h
/-- Some taken slot is at 'from' or behind. -/
theorem Old.frm_lt {home : Nat → Int → Nat} {t : Tb} (h : Old home t) (hp : 0 < cnt t.old.sl) : t.frm < t.old.sl.length := by
  obtain ⟨e, he, ht⟩ := cnt_some hp
  rcases Nat.lt_or_ge e t.frm with h1 | h1
  · rw [h.past e h1] at ht; exact absurd ht (by simp)
  · omega
theorem MvInv.free {home : Nat → Int → Nat} {t t1 : Tb} {d : Nat} (h : MvInv home t t1 d) (ho : Old home t1) (hp : 0 < cnt t1.old.sl) (hf : (at_ t1.old.sl t1.frm).t = false) : MvInv home t { t1 with frm := t1.frm + 1 } d := by
  refine ⟨h.fit, h.inv, h.many, .inr ⟨ho.fit, ho.inv, ho.many, fun q hq => ?_, ho.frm_lt hp, ho.len, ho.apart⟩, h.cntO, h.len, h.has, h.moves, h.nl, h.ol, h.adr⟩
  by_cases hq' : q = t1.frm
  · subst hq'; exact hf
  · exact ho.past q (by simp only at hq; omega)
theorem MvInv.move {home : Nat → Int → Nat} {t t1 : Tb} {d : Nat} {sk : Nat} (hI : TInv home sk t) (h : MvInv home t t1 d) (ho : Old home t1) (hp : 0 < cnt t1.old.sl) (ht : (at_ t1.old.sl t1.frm).t = true) :
    ∃ S i, clr (home t1.old.bits) (t1.old.sl.length + 1) t1.old.sl t1.frm (nxt t1.old.sl.length t1.frm) = some S ∧ i < t1.now.sl.length ∧
      probe t1.now.sl (at_ t1.old.sl t1.frm).k (t1.now.sl.length + 1) (home t1.now.bits (at_ t1.old.sl t1.frm).k) = some (i, false) ∧
      MvInv home t ⟨{ t1.now with sl := t1.now.sl.set i ⟨(at_ t1.old.sl t1.frm).k, (at_ t1.old.sl t1.frm).n, true⟩, many := t1.now.many + 1 }, { t1.old with sl := S, many := t1.old.many - 1 }, t1.frm, t1.moves + 1⟩ (d + 1) := by
  have hfl := ho.frm_lt hp
  obtain ⟨S, c1, c2, c3, c4, c5, c6⟩ := clr_from ho.inv hfl ht
  obtain ⟨i, b, p1, p2, p3, p4⟩ := probe_from h.inv (at_ t1.old.sl t1.frm).k
  have hox := Has.mk hfl ht
  have hb : b = false := by
    cases b with
    | false => rfl
    | true =>
      obtain ⟨q1, q2⟩ := p3 rfl
      have := Has.mk p2 q1
      rw [q2] at this
      exact absurd hox (ho.apart _ _ _ this)
  subst hb
  obtain ⟨q1, q2, q3⟩ := p4 rfl
  have hload := hI.load
  have hl1 : t1.len = cnt t1.now.sl + cnt t1.old.sl := rfl
  have hlen := h.len
  have hnl := h.nl
  obtain ⟨n1, n2, n3⟩ := put_new (node := (at_ t1.old.sl t1.frm).n) h.inv p2 q1 q2 q3 (by omega)
  refine ⟨S, i, c1, p2, p1, ⟨h.fit.lo, h.fit.hi, by simp only [List.length_set]; exact h.fit.len, h.fit.adr⟩, n1, ?_, .inr ⟨⟨ho.fit.lo, ho.fit.hi, by simp only; rw [c3]; exact ho.fit.len, ho.fit.adr⟩, c2, ?_, fun q hq => c6 q (ho.past q hq), by simp only; rw [c3]; exact ho.frm, by simp only [List.length_set]; rw [c3]; exact ho.len, ?_⟩, ?_, ?_, ?_, ?_, ?_, c3.trans h.ol, h.adr⟩
  · simp only; rw [n2, h.many]; simp
  · have := ho.many; simp only; omega
  · intro k a b h1 h2
    simp only at h1 h2
    rcases (n3 k a).1 h1 with ⟨rfl, _⟩ | ⟨_, h1⟩
    · exact ((c5 _ b).1 h2).1 rfl
    · exact ho.apart k a b h1 ((c5 k b).1 h2).2
  · have := h.cntO; simp only; omega
  · rw [← h.len]
    simp only [Tb.len]
    omega
  · intro k v
    rw [← h.has]
    simp only [Tb.has]
    rw [n3, c5]
    constructor
    · rintro ((⟨rfl, rfl⟩ | ⟨_, h1⟩) | ⟨_, h1⟩)
      · exact .inr hox
      · exact .inl h1
      · exact .inr h1
    · rintro (h1 | h1)
      · by_cases hk : k = (at_ t1.old.sl t1.frm).k
        · subst hk; exact absurd hox (ho.apart _ _ _ h1)
        · exact .inl (.inr ⟨hk, h1⟩)
      · by_cases hk : k = (at_ t1.old.sl t1.frm).k
        · subst hk
          exact .inl (.inl ⟨rfl, Has.one ho.inv h1 hox⟩)
        · exact .inr ⟨hk, h1⟩
  · have := h.moves; simp only; omega
  · simp only [List.length_set]; exact h.nl
/-- What is left when keys have been taken over. -/
structure Moved (home : Nat → Int → Nat) (sk most : Nat) (t t1 : Tb) : Prop where
  inv : TInv home (sk - 2 * most) t1
  has : ∀ k v, t1.has k v ↔ t.has k v
  moves : t1.moves = t.moves + min most (cnt t.old.sl)
  nl : t1.now.sl.length = t.now.sl.length
  len : t1.len = t.len
  cntO : cnt t1.old.sl = cnt t.old.sl - most
  non : cnt t1.old.sl = 0 → t1.old = none_
theorem MvInv.some_ {home : Nat → Int → Nat} {sk most : Nat} {t t1 : Tb} {d : Nat} (hI : TInv home sk t) (h : MvInv home t t1 d) (hd : d = most) (hp : 0 < cnt t1.old.sl) : Moved home sk most t t1 := by
  subst hd
  have h1 := h.cntO
  have h2 := hI.pot (by omega)
  have h3 := hI.load
  have h4 := h.len
  have h5 := h.nl
  have h6 := h.ol
  have h7 := h.moves
  refine ⟨⟨h.fit, h.inv, h.many, h.old, by omega, fun _ => by omega⟩, h.has, ?_, h.nl, h.len, by omega, fun h => by omega⟩
  rw [h7, Nat.min_eq_left (by omega)]
theorem MvInv.none {home : Nat → Int → Nat} {sk most : Nat} {t t1 : Tb} {d : Nat} (hI : TInv home sk t) (h : MvInv home t t1 d) (hd : d ≤ most) (hp : cnt t1.old.sl = 0) : Moved home sk most t { t1 with old := none_, frm := 0 } := by
  have h1 := h.cntO
  have h3 := hI.load
  have h4 := h.len
  have h5 := h.nl
  have h7 := h.moves
  have hl : Tb.len { t1 with old := none_, frm := 0 } = t1.len := by
    simp only [Tb.len, hp]; rfl
  refine ⟨⟨h.fit, h.inv, h.many, .inl ⟨rfl, rfl⟩, by rw [hl]; simp only; omega, fun h => absurd h (by simp [none_, cnt])⟩, fun k v => ?_, ?_, h.nl, hl.trans h.len, ?_, fun _ => rfl⟩
  · rw [← h.has]
    constructor
    · rintro (h | h)
      · exact .inl h
      · exact absurd h (not_has rfl k v)
    · rintro (h | h)
      · exact .inl h
      · exact absurd h (not_has hp k v)
  · have : min most (cnt t.old.sl) = d := by rw [Nat.min_eq_right (by omega)]; omega
    simp only; rw [h7, this]
  · show cnt ([] : List Sl) = _
    rw [show cnt ([] : List Sl) = 0 from rfl]
    omega
theorem at_rep (n i : Nat) : at_ (List.replicate n z) i = z := by
  unfold at_
  rw [List.getD_eq_getElem?_getD, List.getElem?_replicate]
  split <;> rfl
theorem cnt_rep (n : Nat) : cnt (List.replicate n z) = 0 := by
  unfold cnt
  rw [List.countP_replicate]
  rfl
theorem flat_rep : ∀ n : Nat, flat enc (List.replicate n z) = (List.range (n * 3)).map (fun i => #[Value.int .u64 0, .int .i32 0, .bool false][i % 3]!)
  | 0 => rfl
  | n + 1 => by
    rw [List.replicate_succ', flat, List.flatMap_append]
    have := flat_rep n
    unfold flat at this
    rw [this, show (n + 1) * 3 = n * 3 + 3 by omega]
    simp only [List.range_succ, List.map_append, List.map_cons, List.map_nil, List.append_assoc]
    congr 1
    simp only [List.flatMap_cons, List.flatMap_nil, List.append_nil, enc, z, List.cons_append, List.nil_append]
    rw [show n * 3 % 3 = 0 by omega, show (n * 3 + 1) % 3 = 1 by omega, show (n * 3 + 2) % 3 = 2 by omega]
    rfl
theorem arr_made {w : World} {e : TypeId} {A n : Nat} (h : w.heap[A]? = some (.cells (madeCells #[.int .u64 0, .int .i32 0, .bool false] (n * 3)) e (0, 0))) : Arr enc w A e (List.replicate n z) := by
  unfold Arr
  rw [h]
  congr 2
  apply Array.toList_inj.1
  rw [flat_rep]
  simp [madeCells, Array.toList_range]
theorem inv_rep {home : Int → Nat} {n : Nat} (hn : 0 < n) (hh : ∀ x, home x < n) : Inv home (List.replicate n z) :=
  ⟨fun x => by rw [List.length_replicate]; exact hh x, ⟨0, by rw [List.length_replicate]; exact hn, by rw [at_rep]; rfl⟩, fun p _ hp => by rw [at_rep] at hp; exact absurd hp (by simp [z]), fun p q _ _ hp => by rw [at_rep] at hp; exact absurd hp (by simp [z])⟩
/-- A table's block, cell by cell. -/
def Tb.cells (t : Tb) : Array Value := #[.int .i64 (t.now.bits : Int), t.now.val, .int .i64 t.now.many, .int .i64 (t.old.bits : Int), t.old.val, .int .i64 t.old.many, .int .i64 (t.frm : Int), .int .u64 t.moves]
theorem TbAt.of {e T : TypeId} {w : World} {g : Nat} {t : Tb} (hb : w.heap[g]? = some (.cells t.cells T (0, 0))) (h1 : ∀ A, t.now.adr = some A → Arr enc w A e t.now.sl ∧ A ≠ g) (h2 : ∀ A, t.old.adr = some A → Arr enc w A e t.old.sl ∧ A ≠ g)
    (n1 : t.now.adr = none → t.now.sl = []) (n2 : t.old.adr = none → t.old.sl = []) (ne : ∀ A, t.now.adr = some A → t.old.adr ≠ some A) : TbAt e T w g t.cells t :=
  ⟨⟨hb, rfl, rfl, rfl, h1, n1⟩, ⟨hb, rfl, rfl, rfl, h2, n2⟩, rfl, rfl, ne⟩
/-- Twice as many slots: what stands in memory. -/
theorem TbAt.grow_ {e T : TypeId} {w w3 : World} {g A b n : Nat} {cs : Array Value} {t : Tb} (h : TbAt e T w g cs t)
    (hb : Below ((w.setCells g 3 [.int .i64 (t.now.bits : Int), t.now.val, .int .i64 t.now.many]).setCell ⟨g, 6, none⟩ (.int .i64 0)).heap.size ((w.setCells g 3 [.int .i64 (t.now.bits : Int), t.now.val, .int .i64 t.now.many]).setCell ⟨g, 6, none⟩ (.int .i64 0)) w3)
    (hA : Arr enc w3 A e (List.replicate n z)) (hle : ((w.setCells g 3 [.int .i64 (t.now.bits : Int), t.now.val, .int .i64 t.now.many]).setCell ⟨g, 6, none⟩ (.int .i64 0)).heap.size ≤ A) (had : t.now.adr ≠ none) :
    ∃ cs', TbAt e T (w3.setCells g 0 [.int .i64 (b : Int), .slice (some ⟨A, 0, none⟩) n n, .int .i64 0]) g cs' ⟨⟨b, some A, List.replicate n z, 0⟩, t.now, 0, t.moves⟩ ∧ Mut (t.foot g) w (Tb.foot g ⟨⟨b, some A, List.replicate n z, 0⟩, t.now, 0, t.moves⟩) (w3.setCells g 0 [.int .i64 (b : Int), .slice (some ⟨A, 0, none⟩) n n, .int .i64 0]) := by
  have hl : 7 < cs.size := (Array.getElem?_eq_some_iff.1 h.mov).1
  have hb1 : ((w.setCells g 3 [.int .i64 (t.now.bits : Int), t.now.val, .int .i64 t.now.many]).setCell ⟨g, 6, none⟩ (.int .i64 0)).heap[g]? = some (.cells ((((cs.setIfInBounds 3 (.int .i64 (t.now.bits : Int))).setIfInBounds 4 t.now.val).setIfInBounds 5 (.int .i64 t.now.many)).setIfInBounds 6 (.int .i64 0)) T (0, 0)) :=
    blk_set (blk_set (blk_set (blk_set h.now.blk 3 _) 4 _) 5 _) 6 _
  have hsz : ((w.setCells g 3 [.int .i64 (t.now.bits : Int), t.now.val, .int .i64 t.now.many]).setCell ⟨g, 6, none⟩ (.int .i64 0)).heap.size = w.heap.size := by
    obtain ⟨q1, q2, q3, q4⟩ := setCells_same g [.int .i64 (t.now.bits : Int), t.now.val, .int .i64 t.now.many] 3 w
    simp only [World.setCell, Array.size_modify] at q4 ⊢
    exact q4
  have hgl : g < w.heap.size := blk_lt h.now.blk
  have hb3 := (hb.block g (by rw [hsz]; exact hgl)).trans hb1
  have hb4 : (w3.setCells g 0 [.int .i64 (b : Int), .slice (some ⟨A, 0, none⟩) n n, .int .i64 0]).heap[g]? = some (.cells ((((((((cs.setIfInBounds 3 (.int .i64 (t.now.bits : Int))).setIfInBounds 4 t.now.val).setIfInBounds 5 (.int .i64 t.now.many)).setIfInBounds 6 (.int .i64 0))).setIfInBounds 0 (.int .i64 (b : Int))).setIfInBounds 1 (.slice (some ⟨A, 0, none⟩) n n)).setIfInBounds 2 (.int .i64 0)) T (0, 0)) :=
    blk_set (blk_set (blk_set hb3 0 _) 1 _) 2 _
  have hfar : ∀ k, k < w.heap.size → k ≠ g → (w3.setCells g 0 [.int .i64 (b : Int), .slice (some ⟨A, 0, none⟩) n n, .int .i64 0]).heap[k]? = w.heap[k]? := fun k hk hkg =>
    (setCells_far _ _ k hkg).trans ((hb.block k (by rw [hsz]; exact hk)).trans ((Below.heap_setCell _ ⟨g, 6, none⟩ _ k hkg).trans (setCells_far _ _ k hkg)))
  obtain ⟨q1, q2, q3, q4⟩ := setCells_same g [.int .i64 (b : Int), .slice (some ⟨A, 0, none⟩) n n, .int .i64 0] 0 w3
  obtain ⟨r1, r2, r3, r4⟩ := setCells_same g [.int .i64 (t.now.bits : Int), t.now.val, .int .i64 t.now.many] 3 w
  refine ⟨_, ⟨⟨hb4, ?_, ?_, ?_, fun B hB => ?_, fun h => absurd h (by simp)⟩, ⟨hb4, ?_, ?_, ?_, fun B hB => ⟨(h.now.arr B hB).1.far (hfar B (h.now.arr B hB).1.lt (h.now.arr B hB).2), (h.now.arr B hB).2⟩, fun hn => absurd hn had⟩, ?_, ?_, fun B hB hB2 => ?_⟩, ?_⟩
  · simp (disch := first | omega | (simp; omega)) only [Array.getElem?_setIfInBounds_ne, Array.getElem?_setIfInBounds_self_of_lt]
  · simp (disch := first | omega | (simp; omega)) only [Array.getElem?_setIfInBounds_ne, Array.getElem?_setIfInBounds_self_of_lt, Rw.val, List.length_replicate, Option.map_some]
  · simp (disch := first | omega | (simp; omega)) only [Array.getElem?_setIfInBounds_self_of_lt]
  · obtain rfl : A = B := Option.some.inj hB
    have hAg : A ≠ g := by rw [hsz] at hle; omega
    exact ⟨hA.far (setCells_far _ _ A hAg), hAg⟩
  · simp (disch := first | omega | (simp; omega)) only [Array.getElem?_setIfInBounds_ne, Array.getElem?_setIfInBounds_self_of_lt]
  · simp (disch := first | omega | (simp; omega)) only [Array.getElem?_setIfInBounds_ne, Array.getElem?_setIfInBounds_self_of_lt]
  · simp (disch := first | omega | (simp; omega)) only [Array.getElem?_setIfInBounds_ne, Array.getElem?_setIfInBounds_self_of_lt]
  · simp (disch := first | omega | (simp; omega)) only [Array.getElem?_setIfInBounds_ne, Array.getElem?_setIfInBounds_self_of_lt]; rfl
  · simp (disch := omega) only [Array.getElem?_setIfInBounds_ne]; exact h.mov
  · obtain rfl : A = B := Option.some.inj hB
    have := (h.now.arr A hB2).1.lt
    rw [hsz] at hle
    omega
  · refine ⟨q1.trans (hb.os.trans r1), q2.trans (hb.tape.trans r2), q3.trans (hb.output.trans r3), ?_, fun k hk hn => hfar k hk (fun e => hn (.inl e)), fun k hk => ?_⟩
    · rw [q4]
      have := hb.size
      rw [hsz] at this
      exact this
    · rcases hk with hk | hk | hk
      · exact .inl (.inl hk)
      · obtain rfl : A = k := Option.some.inj hk
        rw [hsz] at hle
        exact .inr hle
      · exact .inl (.inr (.inl hk))
/-- A new table. -/
theorem TInv.new {home : Nat → Int → Nat} (hh : ∀ x, home 3 x < 8) (A : Nat) : TInv home 0 ⟨⟨3, some A, List.replicate 8 z, 0⟩, none_, 0, 0⟩ :=
  ⟨⟨show 1 ≤ 3 by decide, show 3 ≤ 30 by decide, by simp, by simp⟩, inv_rep (by decide) hh, rfl, .inl ⟨rfl, rfl⟩, by show 2 * (cnt _ + cnt _) ≤ _; rw [cnt_rep]; simp [none_, cnt], fun h => absurd h (by simp [none_, cnt])⟩
/-- More slots: what was is old now. -/
theorem TInv.grown {home : Nat → Int → Nat} {sk : Nat} {t : Tb} (h : TInv home sk t) (ho : t.old = none_) (hb : t.now.bits < 30) (hh : ∀ x, home (t.now.bits + 1) x < 2 ^ (t.now.bits + 1)) (A : Nat) :
    TInv home 0 ⟨⟨t.now.bits + 1, some A, List.replicate (2 ^ (t.now.bits + 1)) z, 0⟩, t.now, 0, t.moves⟩ ∧ (∀ k v, Tb.has ⟨⟨t.now.bits + 1, some A, List.replicate (2 ^ (t.now.bits + 1)) z, 0⟩, t.now, 0, t.moves⟩ k v ↔ t.has k v) ∧ Tb.len ⟨⟨t.now.bits + 1, some A, List.replicate (2 ^ (t.now.bits + 1)) z, 0⟩, t.now, 0, t.moves⟩ = t.len := by
  have hl : Tb.len ⟨⟨t.now.bits + 1, some A, List.replicate (2 ^ (t.now.bits + 1)) z, 0⟩, t.now, 0, t.moves⟩ = t.len := by
    simp only [Tb.len]
    rw [cnt_rep, ho]
    show 0 + _ = _ + cnt ([] : List Sl)
    rw [show cnt ([] : List Sl) = 0 from rfl]
    omega
  have hll := h.load
  have hc : cnt t.now.sl ≤ t.len := by simp only [Tb.len]; omega
  have hp : (2 : Nat) ^ (t.now.bits + 1) = 2 * t.now.sl.length := by rw [h.fit.len, Nat.pow_succ]; omega
  refine ⟨⟨⟨by simp only; omega, by simp only; omega, by simp, by simp⟩, inv_rep (Nat.two_pow_pos _) hh, by simp only; rw [cnt_rep]; rfl, .inr ⟨h.fit, h.inv, h.many, fun q hq => absurd hq (by simp), by simp, by simp only [List.length_replicate]; exact hp, ?_⟩, ?_, ?_⟩, ?_, hl⟩
  · intro k a b h1
    exact absurd h1 (not_has (cnt_rep _) k a)
  · rw [hl]; simp only [List.length_replicate]; rw [hp]; omega
  · intro _; rw [hl]; simp only; omega
  · intro k v
    simp only [Tb.has]
    rw [ho]
    constructor
    · rintro (h1 | h1)
      · exact absurd h1 (not_has (cnt_rep _) k v)
      · exact .inl h1
    · rintro (h1 | h1)
      · exact .inr h1
      · exact absurd h1 (not_has rfl k v)
end Go.Proofs.YtdjbpdahdakfjaaH.Tab
