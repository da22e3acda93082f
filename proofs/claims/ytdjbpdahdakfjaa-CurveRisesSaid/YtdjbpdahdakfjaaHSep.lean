/- What a call may write, as a set of blocks; rows of elements that fill a block whole. -/
import Derived.Test.YtdjbpdahdakfjaaHRange
import Derived.Laws.IdiomCopy
import Derived.StillTailTactics
namespace Go.Proofs.YtdjbpdahdakfjaaH
open Go.RowKit Go.Maps Go.Proofs.YtdjbpdahdakfjaaW.PrintWords
set_option linter.unusedVariables false

/-- Blocks. -/
abbrev Foot := Nat → Prop
/-- From w to w' only the blocks of F were written; what stands for F behind it is of F, or new. -/
structure Mut (F : Foot) (w : World) (F' : Foot) (w' : World) : Prop where
  os : w'.os = w.os
  tape : w'.tape = w.tape
  output : w'.output = w.output
  size : w.heap.size ≤ w'.heap.size
  block : ∀ k, k < w.heap.size → ¬ F k → w'.heap[k]? = w.heap[k]?
  foot : ∀ k, F' k → F k ∨ w.heap.size ≤ k
namespace Mut
variable {F F' F2 G : Foot} {w w' w2 : World}
theorem refl (F : Foot) (w : World) : Mut F w F w := ⟨rfl, rfl, rfl, Nat.le_refl _, fun _ _ _ => rfl, fun _ h => .inl h⟩
theorem trans (h : Mut F w F' w') (k : Mut F' w' F2 w2) : Mut F w F2 w2 :=
  ⟨k.os.trans h.os, k.tape.trans h.tape, k.output.trans h.output, Nat.le_trans h.size k.size,
   fun b hb hn => (k.block b (Nat.lt_of_lt_of_le hb h.size) (fun hf => (h.foot b hf).elim hn (fun hl => by omega))).trans (h.block b hb hn),
   fun b hb => (k.foot b hb).elim (h.foot b) (fun hl => .inr (Nat.le_trans h.size hl))⟩
theorem of_below (F : Foot) (h : Below w.heap.size w w') : Mut F w F w' := ⟨h.os, h.tape, h.output, h.size, fun k hk _ => h.block k hk, fun _ h => .inl h⟩
theorem drew (h : Mut F w F' w') : Mut F w F' w'.drew := ⟨h.os, h.tape, h.output, h.size, h.block, h.foot⟩
theorem drewN (h : Mut F w F' w') (n : Nat) : Mut F w F' (w'.drewN n) := ⟨h.os, h.tape, h.output, h.size, h.block, h.foot⟩
theorem mono (h : Mut F w F' w') (hg : ∀ k, F k → G k) : Mut G w F' w' := ⟨h.os, h.tape, h.output, h.size, fun k hk hn => h.block k hk (fun hf => hn (hg k hf)), fun k hk => (h.foot k hk).imp (hg k) id⟩
theorem less (h : Mut F w F' w') (hg : ∀ k, G k → F' k) : Mut F w G w' := ⟨h.os, h.tape, h.output, h.size, h.block, fun k hk => h.foot k (hg k hk)⟩
theorem foots (h : Mut F w F' w') (hg : ∀ k, G k → F k ∨ w.heap.size ≤ k) : Mut F w G w' := ⟨h.os, h.tape, h.output, h.size, h.block, hg⟩
theorem set (h : Mut F w F' w') {p : Addr} (hp : F' p.block) (v : Value) : Mut F w F' (w'.setCell p v) :=
  h.trans ⟨rfl, rfl, rfl, by simp [World.setCell], fun k _ hn => Below.heap_setCell w' p v k (fun e => hn (by rw [e]; exact hp)), fun _ h => .inl h⟩
theorem alloc (h : Mut F w F' w') (o : Obj) : Mut F w F' (w'.alloc o) := h.trans (of_below _ ((Below.refl _ _).alloc (Nat.le_refl _) o))
theorem below {B : Nat} (h : Mut F w F' w') (hF : ∀ k, F k → B ≤ k) (hB : B ≤ w.heap.size) : Below B w w' := ⟨h.os, h.tape, h.output, h.size, fun k hk => h.block k (by omega) (fun hf => by have := hF k hf; omega)⟩
/-- A block that is not F's stays. -/
theorem far (h : Mut F w F' w') {k : Nat} {o : Obj} (hk : w.heap[k]? = some o) (hn : ¬ F k) : w'.heap[k]? = some o := (h.block k (blk_lt hk) hn).trans hk
/-- What stands for F behind it is apart from what is none of F's. -/
theorem apart (h : Mut F w F' w') {k : Nat} {o : Obj} (hk : w.heap[k]? = some o) (hn : ¬ F k) : ¬ F' k := fun hf => (h.foot k hf).elim hn (fun hl => by have := blk_lt hk; omega)
end Mut

/-- A region that draws its order, reads alone but for its tail: the world behind the draw under one name. -/
theorem region_tail {P : Program} {id : Nat} {Q : Exit → Act → World → Prop} {a : Act} {w : World} {l : List Oper} (n : Nat) (hm : P.follows .mixedOrders = true) (hB : Region.lexTailB .any l.toArray n = true)
    (h : ∀ W2 : World, Aside0 (W2 = w.drew) → wpStill P l.toArray W2 (fun a' => wpList P l.toArray Q (l.drop n) a' W2) (l.take n) a) : (Code.region id l.toArray true).wp P Q a w :=
  wp_region_still_tail n hm hB (h _ ⟨rfl⟩)

theorem cell_alloc {w : World} (o : Obj) {a : Addr} {v : Value} (h : w.cell? a = some v) : (w.alloc o).cell? a = some v := pw_cell_below ((Below.refl _ _).alloc (Nat.le_refl _) o) h
/-! ### rows of elements that fill a block whole -/
def flat {α : Type} (enc : α → List Value) (l : List α) : List Value := l.flatMap enc
def Arr {α : Type} (enc : α → List Value) (w : World) (A : Nat) (e : TypeId) (l : List α) : Prop := w.heap[A]? = some (.cells (flat enc l).toArray e (0, 0))
section
variable {α : Type} {enc : α → List Value} {sz : Nat} {w : World} {A : Nat} {e : TypeId} {l : List α}
theorem flat_length (hs : ∀ x, (enc x).length = sz) : ∀ l : List α, (flat enc l).length = l.length * sz
  | [] => by simp [flat]
  | x :: r => by
    have := flat_length hs r
    simp only [flat, List.flatMap_cons, List.length_append, List.length_cons] at this ⊢
    rw [this, hs x, Nat.add_mul]
    omega
theorem flat_get (hs : ∀ x, (enc x).length = sz) : ∀ (l : List α) (i j : Nat) (hi : i < l.length), j < sz → (flat enc l)[i * sz + j]? = (enc l[i])[j]?
  | [], i, j, hi, _ => absurd hi (by simp)
  | x :: r, 0, j, hi, hj => by
    simp only [flat, List.flatMap_cons, Nat.zero_mul, Nat.zero_add, List.getElem_cons_zero]
    rw [List.getElem?_append_left (by rw [hs]; exact hj)]
  | x :: r, i + 1, j, hi, hj => by
    have := flat_get hs r i j (by simpa using hi) hj
    simp only [flat, List.flatMap_cons, List.getElem_cons_succ] at this ⊢
    rw [List.getElem?_append_right (by rw [hs, Nat.add_mul]; omega), hs, show (i + 1) * sz + j - sz = i * sz + j by rw [Nat.add_mul]; omega]
    exact this
theorem flat_set (hs : ∀ x, (enc x).length = sz) : ∀ (l : List α) (i : Nat) (x : α), i < l.length → flat enc (l.set i x) = (flat enc l).take (i * sz) ++ enc x ++ (flat enc l).drop (i * sz + sz)
  | [], i, x, hi => absurd hi (by simp)
  | y :: r, 0, x, hi => by
    simp only [flat, List.set_cons_zero, List.flatMap_cons, Nat.zero_mul, List.take_zero, List.nil_append, Nat.zero_add]
    rw [List.drop_append_of_le_length (by rw [hs]; exact Nat.le_refl _), List.drop_of_length_le (by rw [hs]; exact Nat.le_refl _), List.nil_append]
  | y :: r, i + 1, x, hi => by
    have := flat_set hs r i x (by simpa using hi)
    simp only [flat, List.set_cons_succ, List.flatMap_cons] at this ⊢
    rw [this, show (i + 1) * sz = sz + i * sz by rw [Nat.add_mul]; omega]
    rw [List.take_append, List.drop_append, hs, List.take_of_length_le (l := enc y) (by rw [hs]; omega), List.drop_of_length_le (l := enc y) (by rw [hs]; omega), show sz + i * sz - sz = i * sz by omega, show sz + i * sz + sz - sz = i * sz + sz by omega]
    simp
theorem Arr.lt (h : Arr enc w A e l) : A < w.heap.size := blk_lt h
theorem Arr.cell (h : Arr enc w A e l) (hs : ∀ x, (enc x).length = sz) {i j : Nat} (hi : i < l.length) (hj : j < sz) : w.cell? ⟨A, i * sz + j, none⟩ = (enc l[i])[j]? := by
  rw [blk_cell h, List.getElem?_toArray, flat_get hs l i j hi hj]
theorem Arr.frozen (h : Arr enc w A e l) (j : Nat) : w.frozen? ⟨A, j, none⟩ = false := blk_frozen h j
theorem Arr.far {w' : World} (h : Arr enc w A e l) (hk : w'.heap[A]? = w.heap[A]?) : Arr enc w' A e l := hk.trans h
theorem Arr.set (h : Arr enc w A e l) (hs : ∀ x, (enc x).length = sz) {i : Nat} (hi : i < l.length) (x : α) : Arr enc (w.setCells A (i * sz) (enc x)) A e (l.set i x) := by
  have hl := flat_length hs l
  have hm : i * sz + sz ≤ l.length * sz := by
    have := Nat.mul_le_mul_right sz (show i + 1 ≤ l.length from hi)
    rw [Nat.add_mul] at this
    omega
  obtain ⟨cur', h1, h2, h3⟩ := setCells_row (enc x) (i * sz) w _ h (by rw [hs, List.size_toArray, hl]; exact hm)
  unfold Arr
  rw [h1, flat_set hs l i x hi]
  congr 2
  apply Array.toList_inj.1
  rw [h3, hs]
end
end Go.Proofs.YtdjbpdahdakfjaaH
