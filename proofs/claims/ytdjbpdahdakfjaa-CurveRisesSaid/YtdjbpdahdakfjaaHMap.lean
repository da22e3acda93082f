/- A map of whole numbers that a call makes, told as a function; the laws of its operations. -/
import Derived.Test.YtdjbpdahdakfjaaWWords
import Derived.Maps.Own
import Derived.Maps.OwnSet
import Derived.Maps.OwnOps
import Derived.Maps.OwnIn
import Derived.Maps.Views
import Derived.Maps.Keyed
import Derived.Maps.Ext
import Derived.Carry
import Derived.Outline
namespace Go.Proofs.YtdjbpdahdakfjaaH
open Go.RowKit Go.Maps Go.Proofs.YtdjbpdahdakfjaaW.PrintWords
set_option linter.unusedVariables false

/-- Block b is a map of at most n keys (of kind q) that is m, a function. -/
def OwnsU (P : Program) (k e : TypeId) (q : IntKind) (w : World) (b n : Nat) (m : Int → Option Int) : Prop :=
  ∃ D : DataW Unit, w.ownsMap P k (plainElem P e) b n D ∧ (∀ x, has D (.int q x) = (m x).isSome) ∧ ∀ x y, m x = some y → ∀ z, D.atKey (.int q x) z = .lit (.int .i64 y)

section
variable {P : Program} {k e : TypeId} {q : IntKind} {w : World} {b n : Nat} {m : Int → Option Int}
theorem OwnsU.made (P : Program) (k e : TypeId) (q : IntKind) (w : World) : OwnsU P k e q (w.alloc (.map #[] 0)) w.heap.size 0 (fun _ => none) :=
  ⟨_, World.ownsMap_made _ _ _ _, fun x => rfl, fun x y h => by cases h⟩
theorem OwnsU.mono (h : OwnsU P k e q w b n m) {n' : Nat} (hn : n ≤ n') : OwnsU P k e q w b n' m := by
  obtain ⟨D, h1, h2⟩ := h
  exact ⟨D, h1.mono hn, h2⟩
theorem OwnsU.lt (h : OwnsU P k e q w b n m) : b < w.heap.size := by
  obtain ⟨D, h1, h2⟩ := h
  exact h1.lt
theorem OwnsU.setCell (h : OwnsU P k e q w b n m) {a : Addr} (ha : b ≠ a.block) (u : Value) : OwnsU P k e q (w.setCell a u) b n m := by
  obtain ⟨D, h1, h2⟩ := h
  exact ⟨D, h1.setCell ha u, h2⟩
/-- What leaves the block alone leaves the map. -/
theorem OwnsU.kept {w' : World} (h : OwnsU P k e q w b n m) (hb : w'.heap[b]? = w.heap[b]?) : OwnsU P k e q w' b n m := by
  obtain ⟨D, ⟨es, clock, hx, hr⟩, h2⟩ := h
  exact ⟨D, ⟨es, clock, hb.trans hx, hr⟩, h2⟩
theorem OwnsU.isBlock (h : OwnsU P k e q w b n m) : ∃ es clock, w.heap[b]? = some (.map es clock) := by
  obtain ⟨D, ⟨es, clock, hx, hr⟩, h2⟩ := h
  exact ⟨es, clock, hx⟩
theorem OwnsU.grown {w' : World} {row : Option Nat} (h : OwnsU P k e q w b n m) (hg : w.grownBy w' row) (hne : some b ≠ row) : OwnsU P k e q w' b n m := h.kept (hg.block b h.lt hne)
theorem OwnsU.below {w' : World} (h : OwnsU P k e q w b n m) (hb : Below w.heap.size w w') : OwnsU P k e q w' b n m := h.kept (hb.block b h.lt)
/-- A map's block is no row's. -/
theorem OwnsU.ne_row {α : Type} {d : Kd α} {e' base : Nat} {ok : Nat → Prop} {v : Value} {xs : List α} (h : OwnsU P k e q w b n m) (hr : d.R e' w base ok v xs) : some b ≠ v.ownBlock := by
  intro he
  obtain ⟨es, c, hb⟩ := h.isBlock
  obtain ⟨inner, ho⟩ := Kd.R_own hr
  obtain ⟨cells, hc⟩ := own_typed ho b he.symm
  rw [hb] at hc
  cases hc
/-- A row stays where a map is written. -/
theorem R_mapped {α : Type} {d : Kd α} {e' base : Nat} {ok : Nat → Prop} {v : Value} {xs : List α} {w' : World} (hr : d.R e' w base ok v xs) (h : OwnsU P k e q w b n m) (hg : w.grownBy w' (some b)) : d.R e' w' base ok v xs :=
  Kd.R_mono (Kd.R_step (Kd.R_bound hr) (fun j hj hlt => hg.block j hlt (fun he => by
    injection he with he
    subst he
    obtain ⟨es, c, hb⟩ := h.isBlock
    obtain ⟨_, _, _, q', _, cells, hc⟩ := hj
    rw [hb] at hc
    cases hc))) (fun _ hj => hj.1)
theorem isKey_int (q : IntKind) (x : Int) : WideAt.IsKeyLit (.int q x) := by simp [WideAt.IsKeyLit]

variable {ops : Array Oper} {rest : List Oper} {o : Oper} {a : Act} {Q : Exit → Act → World → Prop}
theorem OwnsU.look_ok (hg : o.guard = none) (mm x : Operand) (t : TypeId) (hop : o.op = Op.lookup t mm x true)
    (hk : P.underlying k = some (.int q)) (ht : P.underlying t = some (.map k e)) (he : P.underlying e = some (.int .i64)) (hz : (zeroValue e).run P w = .ok (.int .i64 0) w)
    (hown : OwnsU P k e q w b n m) (hm : a.eval mm = .map (some b)) (key : Int) (hx : a.eval x = .int q key) (hwf : (Lit.int q key).wf = true)
    (hK : wpList P ops Q rest (a.put o.dst (.tuple #[.int .i64 ((m key).getD 0), .bool (m key).isSome])) w) : wpList P ops Q (o :: rest) a w := by
  obtain ⟨D, h1, h2, h3⟩ := hown
  refine wpList_lookup_own_ok_int w hg mm x t hop k e .i64 (int_keyed hk) ht he hz b n D hm h1 (.int q key) (.int q key) hx (keyOf_int_mk hk hwf) ?_
  intro c hc hwc
  rw [h2 key]
  cases hmk : m key with
  | none =>
    have hh := h2 key
    rw [hmk] at hh
    have := atKey_of_not_has hh (.lit (.int .i64 0))
    rw [this] at hc
    injection hc with hc
    injection hc with _ hc
    rw [hmk] at hK
    rw [← hc]
    exact hK
  | some y =>
    have := h3 key y hmk (.lit (.int .i64 0))
    rw [this] at hc
    injection hc with hc
    injection hc with _ hc
    rw [hmk] at hK
    rw [← hc]
    exact hK
theorem OwnsU.look (hg : o.guard = none) (mm x : Operand) (t : TypeId) (hop : o.op = Op.lookup t mm x false)
    (hk : P.underlying k = some (.int q)) (ht : P.underlying t = some (.map k e)) (he : P.underlying e = some (.int .i64)) (hz : (zeroValue e).run P w = .ok (.int .i64 0) w)
    (hown : OwnsU P k e q w b n m) (hm : a.eval mm = .map (some b)) (key : Int) (hx : a.eval x = .int q key) (hwf : (Lit.int q key).wf = true)
    (hK : wpList P ops Q rest (a.put o.dst (.int .i64 ((m key).getD 0))) w) : wpList P ops Q (o :: rest) a w := by
  obtain ⟨D, h1, h2, h3⟩ := hown
  refine wpList_lookup_own_int w hg mm x t hop k e .i64 (int_keyed hk) ht he hz b n D hm h1 (.int q key) (.int q key) hx (keyOf_int_mk hk hwf) ?_
  intro c hc hwc
  cases hmk : m key with
  | none =>
    have hh := h2 key
    rw [hmk] at hh
    have := atKey_of_not_has hh (.lit (.int .i64 0))
    rw [this] at hc
    injection hc with hc
    injection hc with _ hc
    rw [hmk] at hK
    rw [← hc]
    exact hK
  | some y =>
    have := h3 key y hmk (.lit (.int .i64 0))
    rw [this] at hc
    injection hc with hc
    injection hc with _ hc
    rw [hmk] at hK
    rw [← hc]
    exact hK
theorem OwnsU.lookIn {F : Fence} {nF : Nat} (hg : o.guard = none) (mm x : Operand) (t : TypeId) (hop : o.op = Op.lookup t mm x false)
    (hk : P.underlying k = some (.int q)) (ht : P.underlying t = some (.map k e)) (he : P.underlying e = some (.int .i64)) (hz : (zeroValue e).run P w = .ok (.int .i64 0) w)
    (hown : OwnsU P k e q w b n m) (hm : a.eval mm = .map (some b)) (key : Int) (hx : a.eval x = .int q key) (hwf : (Lit.int q key).wf = true)
    (hK : wpListIn F nF P ops Q rest (a.put o.dst (.int .i64 ((m key).getD 0))) w) : wpListIn F nF P ops Q (o :: rest) a w := by
  obtain ⟨D, h1, h2, h3⟩ := hown
  refine wpListIn_lookup_own_int w hg mm x t hop k e .i64 (int_keyed hk) ht he hz b n D hm h1 (.int q key) (.int q key) hx (keyOf_int_mk hk hwf) ?_
  intro c hc hwc
  cases hmk : m key with
  | none =>
    have hh := h2 key
    rw [hmk] at hh
    have := atKey_of_not_has hh (.lit (.int .i64 0))
    rw [this] at hc
    injection hc with hc
    injection hc with _ hc
    rw [hmk] at hK
    rw [← hc]
    exact hK
  | some y =>
    have := h3 key y hmk (.lit (.int .i64 0))
    rw [this] at hc
    injection hc with hc
    injection hc with _ hc
    rw [hmk] at hK
    rw [← hc]
    exact hK
theorem OwnsU.update (hg : o.guard = none) (mm x v : Operand) (t : TypeId) (hop : o.op = Op.mapUpdate t mm x v)
    (hk : P.underlying k = some (.int q)) (ht : P.underlying t = some (.map k e)) (he : P.underlying e = some (.int .i64)) (hn : n < maxLen)
    (hown : OwnsU P k e q w b n m) (hm : a.eval mm = .map (some b)) (key val : Int) (hx : a.eval x = .int q key) (hv : a.eval v = .int .i64 val) (hwf : (Lit.int q key).wf = true) (hwv : (Lit.int .i64 val).wf = true)
    (hK : ∀ w', OwnsU P k e q w' b (n + 1) (fun y => if y = key then some val else m y) → w.grownBy w' (some b) → wpList P ops Q rest (a.put o.dst undef) w') : wpList P ops Q (o :: rest) a w := by
  obtain ⟨D, h1, h2, h3⟩ := hown
  refine wpList_mapUpdate_own w hg mm x v t hop k e (int_keyed hk) ht _ b n D hm h1 hn (.int q key) (.int .i64 val) (.int q key) hx hv (keyOf_int_mk hk hwf) _ [] (plainElem_int he hwv) ?_
  intro w' ho hgr
  refine hK w' ⟨_, ho, fun y => ?_, fun y z hy u => ?_⟩ hgr
  · show _ = (if y = key then some val else m y).isSome
    by_cases hyk : y = key
    · subst hyk
      rw [has_put_same h1.isMap (isKey_int q y)]
      simp
    · rw [has_put_other (fun h => hyk (by injection h)), h2 y, if_neg hyk]
  · replace hy : (if y = key then some val else m y) = some z := hy
    by_cases hyk : y = key
    · subst hyk
      rw [if_pos rfl] at hy
      injection hy with hy
      rw [atKey_put_same h1.isMap (isKey_int q y), hy]
    · rw [if_neg hyk] at hy
      rw [atKey_put_other (fun h => hyk (by injection h))]
      exact h3 y z hy u
end
end Go.Proofs.YtdjbpdahdakfjaaH
