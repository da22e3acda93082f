/- Rows of laws over arguments of any plain kind: what is read of an argument is a value of the print's kinds; one frame for the row of any law. -/
import Derived.Test.YtdjbpdahdakfjaaWWords
import Derived.Test.YtdjbpdahdakfjaaWSized
import Derived.WalkKit
import Derived.ProofKit
import Derived.OpenShut
import Derived.ShutString
import Derived.ChangeOld
import Derived.ChangeArms
import Derived.Below
import Derived.Carry
import Derived.SizedLaws
import Derived.Deep.Slices
namespace Go.Proofs.YtdjbpdahdakfjaaH
open Go.RowKit Go.ChangeShapes Go.WideShapes Go.ChangeAt Go.Proofs.YtdjbpdahdakfjaaW.PrintWords
set_option linter.unusedVariables false

/-- What is read of cells of a type is a value of a kind, of which something holds. -/
structure Opens (P : Program) (t : TypeId) {α : Type} (d : Kd α) (ok : α → Prop) : Prop where
  size : P.cellsOf t = d.sz
  down : ∀ {H : Type} {enc : TypeId × Value → H} {W : World} {base : Nat} {spare : Nat → Bool} {held : Bool} {fuel : Nat} {cs : List Value} {x : DataW H × List MemPlace},
    DataW.trod enc P W base spare held fuel t cs = some x → ∃ a, d.K W a cs ∧ ok a

/-- The fields from a place on. -/
structure OpensF (P : Program) (fs : List Field) (s : Nat) {α : Type} (d : Kd α) (ok : α → Prop) : Prop where
  down : ∀ {H : Type} {enc : TypeId × Value → H} {W : World} {base : Nat} {spare : Nat → Bool} {held : Bool} {n : Nat} {cs : List Value}, s + d.sz ≤ cs.length →
    (∀ (i : Nat) (f : Field), fs[i]? = some f → ∃ y, DataW.trod enc P W base spare held n f.type ((cs.drop f.offset).take (P.cellsOf f.type)) = some y) → ∃ a, d.K W a ((cs.drop s).take d.sz) ∧ ok a

section
variable {P : Program} {α β : Type}
theorem opens_int {t : TypeId} {k : IntKind} (ht : P.underlying t = some (.int k)) (hc : P.cellsOf t = 1) : Opens P t (Kd.int k) (fun n => (Lit.int k n).wf = true) :=
  ⟨hc, fun h => by
    obtain ⟨n, rfl, _, hw⟩ := DataW.trod_int ht h
    exact ⟨n, rfl, hw⟩⟩
theorem opens_bool {t : TypeId} (ht : P.underlying t = some .bool) (hc : P.cellsOf t = 1) : Opens P t Kd.bool (fun _ => True) :=
  ⟨hc, fun h => by
    obtain ⟨n, rfl, _⟩ := DataW.trod_bool ht h
    exact ⟨n, rfl, trivial⟩⟩
theorem opens_string {t : TypeId} (ht : P.underlying t = some .string) (hc : P.cellsOf t = 1) : Opens P t Kd.string (fun s => s.size ≤ maxLen) :=
  ⟨hc, fun h => by
    obtain ⟨n, rfl, _, hs⟩ := DataW.trod_string ht h
    exact ⟨n, rfl, hs⟩⟩
theorem opens_iso {t : TypeId} {d : Kd α} {ok : α → Prop} (h : Opens P t d ok) (f : β → α) (g : α → β) (hfg : ∀ a, f (g a) = a) : Opens P t (Kd.iso d f) (fun x => ok (f x)) :=
  ⟨h.size, fun hx => by
    obtain ⟨a, ha, hok⟩ := h.down hx
    exact ⟨g a, by show d.K _ (f (g a)) _; rw [hfg]; exact ha, by rw [hfg]; exact hok⟩⟩
theorem opens_iso' {t : TypeId} {d : Kd α} {ok : α → Prop} (h : Opens P t d ok) (f : β → α) (g : α → β) (hfg : ∀ a, f (g a) = a) {ok' : β → Prop} (hok : ∀ x, ok (f x) → ok' x) : Opens P t (Kd.iso d f) ok' :=
  ⟨h.size, fun hx => by
    obtain ⟨a, ha, ho⟩ := (opens_iso h f g hfg).down hx
    exact ⟨a, ha, hok a ho⟩⟩
theorem opensF_one {f : Field} {s : Nat} {d : Kd α} {ok : α → Prop} (ho : f.offset = s) (h : Opens P f.type d ok) : OpensF P [f] s d ok := ⟨fun hl hf => by
  obtain ⟨y, hy⟩ := hf 0 f rfl
  rw [ho, h.size] at hy
  exact h.down hy⟩
theorem opensF_cons {f : Field} {fs : List Field} {s : Nat} {d0 : Kd α} {d1 : Kd β} {ok0 : α → Prop} {ok1 : β → Prop} (ho : f.offset = s) (h0 : Opens P f.type d0 ok0) (h1 : OpensF P fs (s + d0.sz) d1 ok1) :
    OpensF P (f :: fs) s (Kd.pair d0 d1) (fun p => ok0 p.1 ∧ ok1 p.2) := ⟨fun {H enc W base spare held n cs} hl hf => by
  obtain ⟨y, hy⟩ := hf 0 f rfl
  rw [ho, h0.size] at hy
  obtain ⟨a, ha, hoka⟩ := h0.down hy
  have hl' : s + (d0.sz + d1.sz) ≤ cs.length := hl
  obtain ⟨b, hb, hokb⟩ := h1.down (cs := cs) (by omega) (fun i f' hi => hf (i + 1) f' (by simpa using hi))
  refine ⟨(a, b), ⟨_, _, ?_, ha, hb⟩, hoka, hokb⟩
  show (cs.drop s).take (d0.sz + d1.sz) = _
  rw [List.take_add, List.drop_drop]⟩
theorem opens_struct {t : TypeId} {fs : Array Field} {d : Kd α} {ok : α → Prop} (ht : P.underlying t = some (.struct fs)) (hc : P.cellsOf t = d.sz) (h : OpensF P fs.toList 0 d ok) : Opens P t d ok :=
  ⟨hc, fun {H enc W base spare held fuel cs x} hx => by
    obtain ⟨xs, n, _, _, hl, hlen, hf⟩ := DataW.trod_struct ht hx
    obtain ⟨a, ha, hok⟩ := h.down (cs := cs) (n := n) (by rw [hl, hc]; omega) (fun i f hi => by
      have hi' : fs[i]? = some f := by simpa using hi
      have h1 := hf i f hi'
      have hil : i < xs.length := by rw [hlen]; exact (Array.getElem?_eq_some_iff.1 hi').1
      rw [List.getElem?_eq_getElem hil] at h1
      exact ⟨_, h1⟩)
    rw [List.drop_zero, List.take_of_length_le (by omega)] at ha
    exact ⟨a, ha, hok⟩⟩

theorem mapM_range_get {γ : Type} {f : Nat → Option γ} : ∀ {n : Nat} {l : List γ}, (List.range n).mapM f = some l → ∀ j, j < n → f j = l[j]?
  | 0, _, _, j, hj => absurd hj (Nat.not_lt_zero _)
  | n + 1, l, h, j, hj => by
    rw [List.range_succ, List.mapM_append] at h
    cases h1 : (List.range n).mapM f with
    | none => simp [h1] at h
    | some l1 =>
      cases h2 : f n with
      | none => simp [h1, h2] at h
      | some y =>
        simp [h1, h2] at h
        subst h
        have hl : l1.length = n := by
          have : ∀ {m : Nat} {l : List γ}, (List.range m).mapM f = some l → l.length = m := by
            intro m
            induction m with
            | zero => intro l h; simp at h; subst h; rfl
            | succ m ih =>
              intro l h
              rw [List.range_succ, List.mapM_append] at h
              cases h1 : (List.range m).mapM f with
              | none => simp [h1] at h
              | some l1 =>
                cases h2 : f m with
                | none => simp [h1, h2] at h
                | some y => simp [h1, h2] at h; subst h; simp [ih h1]
          exact this h1
        rcases Nat.lt_succ_iff_lt_or_eq.1 hj with hlt | rfl
        · rw [List.getElem?_append_left (by omega)]; exact mapM_range_get h1 j hlt
        · rw [List.getElem?_append_right (by omega), hl, h2]; simp
/-- A slice whose elements are read: the rows' own reading. -/
theorem slice_reads {t e : TypeId} {d : Kd α} {ok : α → Prop} (ht : P.underlying t = some (.slice e)) (h : Opens P e d ok)
    {H : Type} {enc : TypeId × Value → H} {W : World} {base : Nat} {spare : Nat → Bool} {held : Bool} {fuel : Nat} {cs : List Value} {x : DataW H × List MemPlace}
    (hx : DataW.trod enc P W base spare held fuel t cs = some x) : ∃ A c, ∃ xs : List α, cs = [.slice A xs.length c] ∧ xs.length ≤ c ∧ d.C W A xs.length xs ∧ (∀ y ∈ xs, ok y) ∧ ((x.1 = .nil ∧ xs = []) ∨ ∃ es sp, x.1 = .slice es sp ∧ es.length = xs.length) := by
  rcases Go.Deep.open_slice ht hx with ⟨rfl, rfl⟩ | ⟨a, len, cap, m, n, D, Pl, rfl, hb, hl, hm, hmm, rfl, hel⟩
  · exact ⟨none, 0, [], rfl, Nat.le_refl _, ⟨rfl, by simp, fun h => absurd h (by simp)⟩, fun y hy => by simp at hy, .inl ⟨rfl, rfl⟩⟩
  · have hlm : len ≤ m := by rw [hmm]; split <;> omega
    have key : ∀ i, i < len → ∃ y, ok y ∧ ∃ c, c.length = d.sz ∧ d.K W y c ∧ ∀ j u, c[j]? = some u → W.cell? (a.add (i * d.sz + j)) = some u := by
      intro i hi
      obtain ⟨cs', h1, h2⟩ := hel i (by omega)
      obtain ⟨y, hy, hok⟩ := h.down h2
      refine ⟨y, hok, cs', d.K_len hy, hy, fun j u hj => ?_⟩
      rw [h.size] at h1
      unfold World.cells? at h1
      split at h1
      · have hjl : j < d.sz := by rw [← d.K_len hy]; exact (List.getElem?_eq_some_iff.1 hj).1
        have h3 := mapM_range_get h1 j hjl
        rw [hj, Go.Deep.add_add] at h3
        exact h3
      · simp at h1
    have hpick := Classical.choice (α := {f : (i : Nat) → i < len → α // ∀ i hi, ok (f i hi) ∧ ∃ c, c.length = d.sz ∧ d.K W (f i hi) c ∧ ∀ j u, c[j]? = some u → W.cell? (a.add (i * d.sz + j)) = some u}) ⟨⟨fun i hi => Classical.choose (key i hi), fun i hi => Classical.choose_spec (key i hi)⟩⟩
    obtain ⟨f, hf⟩ := hpick
    refine ⟨some a, cap, (List.finRange len).map fun i => f i.1 i.2, by simp, by simpa using hl, ⟨by simp, ?_, fun hn => ⟨a, rfl, fun j p hj => ?_⟩⟩, fun y hy => ?_, .inr ⟨_, _, rfl, by simp⟩⟩
    · simp only [maxLen] at hm; simp; omega
    · simp only [List.getElem?_map, Option.map_eq_some_iff] at hj
      obtain ⟨i, hi, rfl⟩ := hj
      obtain ⟨hi1, hi2⟩ := List.getElem?_eq_some_iff.1 hi
      have hij : i.1 = j := by rw [← hi2]; simp
      subst hij
      exact (hf i.1 i.2).2
    · obtain ⟨i, _, rfl⟩ := List.mem_map.1 hy
      exact (hf i.1 i.2).1
theorem opens_slice {t e : TypeId} {d : Kd α} {ok : α → Prop} (ht : P.underlying t = some (.slice e)) (hc : P.cellsOf t = 1) (h : Opens P e d ok) : Opens P t (Kd.slice e d) (fun xs => ∀ y ∈ xs, ok y) :=
  ⟨hc, fun hx => by
    obtain ⟨A, c, xs, rfl, hl, hr, hok, _⟩ := slice_reads ht h hx
    exact ⟨xs, ⟨A, c, rfl, hl, hr⟩, hok⟩⟩
end

/-! The frame of any law's row. -/
section
variable {H : Type} {enc : TypeId × Value → H} {P : Program}
theorem trodAll_lt {W : World} : ∀ {ts : List TypeId} {vs : List Value} {ds : List (DataW H)} {ps : List MemPlace}, DataW.TrodAll enc P W 0 (fun _ => true) true ts vs ds ps → ∀ x ∈ ps, x.block < W.heap.size
  | [], vs, ds, ps, h => by obtain ⟨_, _, rfl⟩ := trodAll_nil h; intro x hx; simp at hx
  | t :: ts, vs, ds, ps, h => by
    obtain ⟨v, vs', d, ds', p, q, rfl, rfl, rfl, ⟨m, hm⟩, h2⟩ := trodAll_cons h
    intro x hx
    rcases List.mem_append.1 hx with hx | hx
    · exact DataW.trod_lt m _ _ _ hm x hx
    · exact trodAll_lt h2 x hx
theorem trodAll_stays (hl : laidOutB P = true) {W W' : World} (hb : Below W.heap.size W W') : ∀ {ts : List TypeId} {vs : List Value} {ds : List (DataW H)} {ps : List MemPlace}, (ts.all fun t => P.readableRec t && decide (t < P.types.size)) = true →
    DataW.TrodAll enc P W 0 (fun _ => true) true ts vs ds ps → DataW.TrodAll enc P W' 0 (fun b => decide (b < W.heap.size)) true ts vs ds ps
  | [], vs, ds, ps, _, h => by obtain ⟨rfl, rfl, rfl⟩ := trodAll_nil h; exact trodAll_mk0
  | t :: ts, vs, ds, ps, ht, h => by
    have hlt := trodAll_lt h
    obtain ⟨v, vs', d, ds', p, q, rfl, rfl, rfl, h1, h2⟩ := trodAll_cons h
    simp only [List.all_cons, Bool.and_eq_true, decide_eq_true_eq] at ht
    exact trodAll_cons_mk (Below.trod hl ht.1.1 ht.1.2 h1 hb (fun x hx => hlt x (List.mem_append_left _ hx))) (trodAll_stays hl hb ht.2 h2)

/-- A law's row out of its walk: whatever the arguments that can be read, the call returns true and leaves all that was as it was. -/
theorem lifted_of {C : Checked} {os : Os} {f : FuncId} {fn : Func} {s : ChangeSpec} (own : ownKnob C.prog.godebug = none) (started : os.Started) (noInit : C.prog.inits.idxOf? f = none) (hfn : C.prog.funcs[f]? = some fn)
    (hl : laidOutB C.prog = true) (hro : (fn.params.toList.all fun t => C.prog.readableRec t && decide (t < C.prog.types.size)) = true) {rt : TypeId} (hrt : fn.resultTypes = #[rt]) (hb : C.prog.underlying rt = some .bool) (hv : s.vars = [])
    (hs : ∀ (H : Type) (l : List (DataW H)), l.length = fn.params.size → s.fn H l = { results := [.lit (.bool true)], args := l })
    (witness : ∃ (w : World) (tape : Tape) (i : Input), w.os = os ∧ (w.forCall tape i).Shaped C.prog ∧ i.vars = [] ∧ Input.okWide C.prog (w.forCall tape i) .any w.heap.size f i ∧
      s.pre6 enc C.prog fn [] false (w.forCall tape i).memory i.args ∧ Assume.holds {} C.prog (lone (Frame.enter C.prog f i.args .normal) [] (w.forCall tape i)))
    (walk : ∀ (W : World) (base : Nat) (args : Array Value) (ds : List (DataW H)) (ps : List MemPlace), (∀ (j : Nat) t v, fn.params[j]? = some t → args[j]? = some v → Value.okWide C.prog W .any base t v) →
      DataW.TrodAll enc C.prog W 0 (fun _ => true) true fn.params.toList args.toList ds ps → (DataW.weightsEach C.prog fn.params.toList ds).all (· ≤ reachBytes) = true →
      Calls C.prog f args W fun e W' => e = .returned (.bool true) ∧ Below W.heap.size W W') :
    ReturnsInHanded {} C os f .any (s.pre6 enc C.prog fn [] false) (s.post enc C.prog fn false true false false) := by
  refine returnsInHanded_of_change_sized own started noInit hfn witness ?_
  intro W base args ds gs before hval hW hcnd hsz _
  have hW' := hW
  obtain ⟨p, q, hA, hV, rfl, hfz, hnd⟩ := hW
  rw [hv] at hV
  obtain ⟨rfl, rfl⟩ := trodVars_none hV
  have hvt : s.plain.varTypes C.prog = [] := by simp [ChangeSpec.plain, DataSpec.varTypes, hv]
  rw [hvt, List.append_nil, List.append_nil] at hsz
  refine (walk W base args ds p hval hA hsz).mono fun e W' ⟨he, bel⟩ => ?_
  subst he
  have hlen : ds.length = fn.params.size := by
    have : ∀ (ts : List TypeId) (vs : List Value) (ds : List (DataW H)) (ps : List MemPlace), DataW.TrodAll enc C.prog W 0 (fun _ => true) true ts vs ds ps → ds.length = ts.length := by
      intro ts
      induction ts with
      | nil => intro vs ds ps h; obtain ⟨_, rfl, _⟩ := trodAll_nil h; rfl
      | cons t ts ih => intro vs ds ps h; obtain ⟨v, vs', d, ds', p, q, _, rfl, _, _, h2⟩ := trodAll_cons h; simp [ih _ _ _ h2]
    rw [this _ _ _ _ hA]; simp
  have e := hs H (ds ++ []) (by rw [List.append_nil]; exact hlen)
  refine ⟨.bool true, rfl, ds, [], _, [], p, [], hW', ?_, ?_, ?_, bel.frame _, fun h => by cases h⟩
  · rw [e, hrt]
    exact trodAll_mk1 (shut_bool hb _)
  · rw [e, List.append_nil]
    exact trodAll_stays hl bel hro hA
  · rw [hv, e]; exact rfl
end
end Go.Proofs.YtdjbpdahdakfjaaH
