/- A loop over an iterator whose body collects into a boxed slice: what the body keeps for the iterator. -/
import Derived.Test.YtdjbpdahdakfjaaWWords
import Derived.RangeFuncBox
import Derived.RangeFuncLeaves
import Derived.RangeFuncWrites
import Derived.RangeFuncBound
import Derived.WalkKit
import Derived.OwnWalkIn
import Derived.TacticsInMore
import Derived.LoopNIn
import Derived.LoopIn
import Derived.Maps.OwnIn
import Derived.Maps.AppendAt
import Derived.Shelf.Abstract
namespace Go.Proofs.YtdjbpdahdakfjaaH
open Go.RowKit Go.Maps Go.Proofs.YtdjbpdahdakfjaaW.PrintWords
set_option linter.unusedVariables false

/-- The block of the slice that lies in box B. -/
def boxRow (W : World) (B : Nat) : Option Nat := (W.cell? ⟨B, 0, none⟩).bind Value.ownBlock
/-- What a body that collects into box B keeps: all that lies but the box and its slice's row; a new row is new. -/
structure KeepsBox (B : Nat) (W W' : World) : Prop where
  size : W.heap.size ≤ W'.heap.size
  keep : ∀ i o, W.heap[i]? = some o → (o.isCells = true ∨ o.isWalk = true) → i ≠ B → boxRow W B ≠ some i → W'.heap[i]? = some o
  row : boxRow W' B = boxRow W B ∨ ∃ b, boxRow W' B = some b ∧ W.heap.size ≤ b
theorem KeepsBox.refl (B : Nat) (W : World) : KeepsBox B W W := ⟨Nat.le_refl _, fun _ _ h _ _ _ => h, .inl rfl⟩
theorem KeepsBox.trans {B : Nat} {W W' W'' : World} (h : KeepsBox B W W') (k : KeepsBox B W' W'') : KeepsBox B W W'' := by
  refine ⟨Nat.le_trans h.size k.size, fun i o hi ho hB hr => ?_, ?_⟩
  · refine k.keep i o (h.keep i o hi ho hB hr) ho hB ?_
    rcases h.row with e | ⟨b, e, hb⟩
    · rw [e]; exact hr
    · rw [e]
      intro he
      injection he with he
      have := (Array.getElem?_eq_some_iff.1 hi).1
      omega
  · rcases k.row with e | ⟨b, e, hb⟩
    · rcases h.row with e' | ⟨b, e', hb⟩
      · exact .inl (e.trans e')
      · exact .inr ⟨b, e.trans e', hb⟩
    · exact .inr ⟨b, e, Nat.le_trans h.size hb⟩
theorem KeepsBox.putObj {B : Nat} {w : World} (hB : B < w.heap.size) (W : World) (l : Nat) (o o' : Obj) (hl : w.heap.size ≤ l) (h : W.heap[l]? = some o) (hc : o.isCells = false) (hw : o.isWalk = false) : KeepsBox B W (W.putObj l o') := by
  have hll := (Array.getElem?_eq_some_iff.1 h).1
  refine ⟨by simp [World.putObj], fun i o1 hi ho hB' hr => ?_, .inl ?_⟩
  · have hne : i ≠ l := by
      rintro rfl
      rw [h] at hi
      injection hi with hi
      subst hi
      rcases ho with ho | ho
      · rw [hc] at ho; cases ho
      · rw [hw] at ho; cases ho
    rw [World.putObj_heap_other (by omega)]
    exact hi
  · unfold boxRow World.cell?
    rw [World.putObj_heap_other (by simp; omega)]
/-- An append to the boxed slice, and the store. -/
theorem KeepsBox.appended {W w1 : World} {n₀ B : Nat} {t e : TypeId} {size : Nat} {v v' : Value} {k m : Nat} {xs ys : List Value} {tmp : Obj}
    (hv : Boxed W B t v) (hte : t ≠ e) (hrow : W.ownsRow n₀ e size v k xs) (hown' : w1.ownsRow n₀ e size v' m ys) (hgrow : (W.alloc tmp).grownBy w1 v.ownBlock)
    (hat : v'.ownBlock = v.ownBlock ∨ ∃ b, v'.ownBlock = some b ∧ W.heap.size ≤ b) : KeepsBox B W (w1.setCell ⟨B, 0, none⟩ v') := by
  have hs : W.heap.size + 1 ≤ w1.heap.size := by have := hgrow.size; simpa using this
  have hv1 : Boxed w1 B t v := (hv.alloc tmp).kept hgrow (hv.not_row hte hrow)
  have hr0 : boxRow W B = v.ownBlock := by unfold boxRow; rw [hv.cell]; rfl
  have hr1 : boxRow (w1.setCell ⟨B, 0, none⟩ v') B = v'.ownBlock := by unfold boxRow; rw [(hv1.set v').cell]; rfl
  refine ⟨by simp [World.setCell]; omega, fun i o hi ho hB hr => ?_, ?_⟩
  · rw [hr0] at hr
    have hlt := (Array.getElem?_eq_some_iff.1 hi).1
    have h1 : (W.alloc tmp).heap[i]? = some o := (Below.heap_alloc W tmp i hlt).trans hi
    have h2 : w1.heap[i]? = some o := (hgrow.block i (by simp; omega) (fun e => hr e.symm)).trans h1
    exact (Below.heap_setCell w1 _ v' i hB).trans h2
  · rw [hr0, hr1]
    exact hat
/-- A box that holds a value speaks of cells alone. -/
theorem boxed_own {β : Type} (B : Nat) (t : TypeId) (f : β → Value) : Own (fun s W => Boxed W B t (f s)) := by
  intro s X Y row hv hg hrow
  refine hv.kept hg (fun e' => ?_)
  obtain ⟨o, ho, hc⟩ := hrow B e'.symm
  rw [show X.heap[B]? = _ from hv] at ho; cases ho; cases hc
theorem keepsOthers_set {W : World} {B : Nat} {t : TypeId} {v : Value} (h : Boxed W B t v) (u : Value) : KeepsOthers W (W.setCell ⟨B, 0, none⟩ u) := by
  refine ⟨by simp [World.setCell], fun i o hi ho => ?_⟩
  refine (Below.heap_setCell W ⟨B, 0, none⟩ u i ?_).trans hi
  intro e
  subst e
  rw [show W.heap[i]? = _ from h] at hi
  cases hi
  cases ho
theorem KeepsBox.setInt {W : World} {B : Nat} {t : TypeId} {k : IntKind} {x : Int} (h : Boxed W B t (.int k x)) (y : Int) : KeepsBox B W (W.setCell ⟨B, 0, none⟩ (.int k y)) := by
  refine ⟨by simp [World.setCell], fun i o hi ho hB _ => (Below.heap_setCell W ⟨B, 0, none⟩ _ i hB).trans hi, .inl ?_⟩
  unfold boxRow
  rw [h.cell, (h.set _).cell]
  rfl
theorem Boxed.drew {W : World} {B : Nat} {t : TypeId} {v : Value} (h : Boxed W B t v) : Boxed W.drew B t v := h
section
variable {P : Program} {ops : Array Oper} {Q : Exit → Act → World → Prop}
/-- A call through a function value, by the contract of the function that it is. -/
theorem goesV_ {rest : List Oper} {oi : Oper} {a : Act} {w : World} (N : Option Tmp) (hd : oi.dst = N) (hg : oi.guard = none) {f : FuncId} (x : Operand) {xs : Array Operand} {ts : Array TypeId} {b c : Array Value} (args : Array Value)
    (hop : oi.op = .call { callee := .value x, args := xs, argTypes := ts }) (hx : a.eval x = .func (.func f) b c) (hargs : b ++ xs.map a.eval ++ c = args) (he : ∀ args w, (callFunc f args).run P w = .ok (.enter f args) w)
    (h : Calls P f args w fun e w' => ∃ v, e = .returned v ∧ wpList P ops Q rest (a.put N v) w') : wpList P ops Q (oi :: rest) a w := by
  refine wpList_plain hg fun K hK => ?_
  have he' := he args w
  have hrun : (execOp a.eval oi).run P w = .ok (.enter f args) w := by
    unfold execOp
    simp [hop, resolve, Deferred.ofValue, invoke, hx, hargs, he']
  unfold Oper.wp
  rw [hrun, Oper.upon_enter]
  refine h.mono fun e w'' hh => ?_
  obtain ⟨v, rfl, hk⟩ := hh
  subst hd
  exact hK _ _ hk
end
end Go.Proofs.YtdjbpdahdakfjaaH
