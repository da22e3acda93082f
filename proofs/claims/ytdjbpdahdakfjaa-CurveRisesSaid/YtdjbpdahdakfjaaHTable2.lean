/- A table behind a Put or a Drop: what it holds, as a set of pairs. -/
import Derived.Test.YtdjbpdahdakfjaaHTable
import Derived.Defers
import Derived.Laws.BitsAllLaws
import Derived.Deep.QuietTactic
namespace Go.Proofs.YtdjbpdahdakfjaaH
open Go.RowKit Go.Proofs.YtdjbpdahdakfjaaW.PrintWords
set_option linter.unusedVariables false

/-- A body's walk serves a call, and a deferred one. -/
theorem both_of_wp {P : Program} {f : FuncId} {fn : Func} {c : Code} {args : Array Value} {w : World} {R : Ending → World → Prop} (hf : P.funcs[f]? = some fn) (hb : fn.body = some c)
    (h : c.wp P (bodyPost P fn R) { tmps := args ++ Array.replicate (fn.ntmps - args.size) undef, defers := [] } w) : Calls P f args w R ∧ ∀ u, CallsD P f args u w fun e u' w' => u' = u ∧ R e w' :=
  ⟨calls_of_wp hf hb h, fun u => callsD_of_wp hf hb h⟩
/-- One deferred call alone, which returns: what the frame returns is read behind it. -/
theorem leaves_one {P : Program} {fn : Func} {tmps : Array Value} {R : Ending → World → Prop} {fv : Fn} {dargs args : Array Value} {w : World} {f : FuncId} {R' : Ending → World → Prop}
    (hi : (invoke (.fn fv #[]) dargs).run P w = .ok (.enter f args) w) (h : ∀ u, CallsD P f args u w fun e u' w' => u' = u ∧ R' e w')
    (hr : ∀ e w', R' e w' → ∃ x, e = .returned x ∧ ∃ v, (results fn tmps).run P w' = .ok v w' ∧ R (.returned v) w') : Leaves P fn tmps R [{ target := .fn fv #[], args := dargs }] .returning w := by
  refine leaves_cons (by simp) hi ((h _).mono ?_)
  rintro e u' w' ⟨rfl, he⟩
  obtain ⟨x, rfl, v, h1, h2⟩ := hr e w' he
  exact ⟨v, h1, h2⟩
/-- A quiet call behind draws. -/
theorem quiet_more {P : Program} {f : FuncId} {args : Array Value} {w : World} {a n : Nat} {v : Value} (h : Calls P f args (w.drewN (a + n)) fun e w' => e = .returned v ∧ ∃ m, w' = (w.drewN (a + n)).drewN m) :
    Calls P f args (w.drewN (a + n)) fun e w'' => e = .returned v ∧ ∃ m, w'' = w.drewN (a + m) := h.mono fun _ _ ⟨he, m, hm⟩ => ⟨he, n + m, by rw [hm, World.drewN_drewN, Nat.add_assoc]⟩
theorem odd_bit {a : Int} (h0 : 0 ≤ a) (h1 : a < 18446744073709551616) : Go.bits .and .u64 a 1 = a % 2 := by
  rw [u64_and a 1 h0 h1 (by decide) (by decide)]
  show ((a.toNat &&& 1 : Nat) : Int) = _
  rw [Nat.and_one_is_mod]
  omega
section
variable {α : Type} {enc : α → List Value} {sz : Nat} {w : World} {A : Nat} {e : TypeId} {l : List α}
theorem flat_set1 (hs : ∀ x, (enc x).length = sz) : ∀ (l : List α) (i j : Nat) (x : α) (v : Value) (hi : i < l.length), j < sz → enc x = (enc l[i]).set j v → flat enc (l.set i x) = (flat enc l).set (i * sz + j) v
  | [], i, j, x, v, hi, _, _ => absurd hi (by simp)
  | y :: r, 0, j, x, v, hi, hj, hx => by
    simp only [flat, List.set_cons_zero, List.flatMap_cons, Nat.zero_mul, Nat.zero_add]
    rw [List.set_append_left _ _ (by rw [hs]; exact hj), hx]
    rfl
  | y :: r, i + 1, j, x, v, hi, hj, hx => by
    have := flat_set1 hs r i j x v (by simpa using hi) hj hx
    simp only [flat, List.set_cons_succ, List.flatMap_cons] at this ⊢
    rw [this, List.set_append_right _ _ (by rw [hs, Nat.add_mul]; omega), hs, show (i + 1) * sz + j - sz = i * sz + j by rw [Nat.add_mul]; omega]
/-- One cell of an element is written. -/
theorem Arr.set1 (h : Arr enc w A e l) (hs : ∀ x, (enc x).length = sz) {i j : Nat} (hi : i < l.length) (hj : j < sz) {x : α} {v : Value} (hx : enc x = (enc l[i]).set j v) : Arr enc (w.setCell ⟨A, i * sz + j, none⟩ v) A e (l.set i x) := by
  have := blk_set h (i * sz + j) v
  unfold Arr
  rw [this, flat_set1 hs l i j x v hi hj hx]
  simp
end
namespace Tab
theorem TInv.mono {home : Nat → Int → Nat} {a b : Nat} {t : Tb} (h : TInv home a t) (hab : a ≤ b) : TInv home b t := ⟨h.fit, h.inv, h.many, h.old, h.load, fun hp => Nat.le_trans (h.pot hp) (by omega)⟩
/-- What a Put of (key, node) leaves. -/
structure Putted (home : Nat → Int → Nat) (t t1 : Tb) (key node : Int) (b : Bool) : Prop where
  inv : TInv home 8 t1
  has : ∀ k v, t1.has k v ↔ (k = key ∧ v = node) ∨ (k ≠ key ∧ t.has k v)
  len : t1.len = if b = true then t.len + 1 else t.len
  nl : t1.now.sl.length = if b = true ∧ t.now.sl.length < 2 * (t.len + 1) then 2 * t.now.sl.length else t.now.sl.length
  moves : t1.moves = t.moves
  cntO : cnt t1.old.sl = cnt t.old.sl
theorem none_free {s : List Sl} {key : Int} (h : ∀ p, p < s.length → (at_ s p).t = true → (at_ s p).k ≠ key) (v : Int) : ¬ Has s key v := by
  rintro ⟨p, hp, hat⟩
  exact h p hp (by rw [hat]) (by rw [hat])
theorem has_not {home : Nat → Int → Nat} {t : Tb} (ho : Old home t) {key a : Int} (h : Has t.old.sl key a) (v : Int) : ¬ Has t.now.sl key v := fun h1 => ho.apart _ _ _ h1 h
/-- The node of a key among the slots that were is written anew. -/
theorem TInv.putOld {home : Nat → Int → Nat} {t : Tb} (h : TInv home 0 t) (ho : Old home t) {i : Nat} (hi : i < t.old.sl.length) {key : Int} (ht : (at_ t.old.sl i).t = true) (hk : (at_ t.old.sl i).k = key) (node : Int) :
    Putted home t { t with old := { t.old with sl := t.old.sl.set i ⟨key, node, true⟩ } } key node false := by
  obtain ⟨p1, p2, p3⟩ := put_old (node := node) ho.inv hi ht hk
  have hl : (t.old.sl.set i ⟨key, node, true⟩).length = t.old.sl.length := List.length_set
  have hL : Tb.len { t with old := { t.old with sl := t.old.sl.set i ⟨key, node, true⟩ } } = t.len := by simp only [Tb.len]; rw [p2]
  have hox : Has t.old.sl key (at_ t.old.sl i).n := hk ▸ Has.mk hi ht
  refine ⟨⟨h.fit, h.inv, h.many, .inr ⟨⟨ho.fit.lo, ho.fit.hi, hl.trans ho.fit.len, ho.fit.adr⟩, p1, by simp only; rw [p2]; exact ho.many, fun q hq => ?_, by simp only; rw [hl]; exact ho.frm, by simp only; rw [hl]; exact ho.len, ?_⟩, by rw [hL]; exact h.load, fun hp => ?_⟩, fun k v => ?_, hL, by simp, rfl, p2⟩
  · simp only
    rw [at_set hi]
    split
    · subst ‹i = q›; rw [ho.past i hq] at ht; exact absurd ht (by simp)
    · exact ho.past q hq
  · intro k a b h1 h2
    rcases (p3 k b).1 h2 with ⟨rfl, _⟩ | ⟨_, h2⟩
    · exact ho.apart _ _ _ h1 hox
    · exact ho.apart _ _ _ h1 h2
  · rw [hL]
    simp only at hp ⊢
    rw [p2] at hp ⊢
    rw [hl]
    exact Nat.le_trans (h.pot hp) (by omega)
  · simp only [Tb.has]
    rw [p3]
    constructor
    · rintro (h1 | h1 | h1)
      · refine .inr ⟨?_, .inl h1⟩
        rintro rfl
        exact ho.apart _ _ _ h1 hox
      · exact .inl h1
      · exact .inr ⟨h1.1, .inr h1.2⟩
    · rintro (h1 | ⟨h1, h2 | h2⟩)
      · exact .inr (.inl h1)
      · exact .inl h2
      · exact .inr (.inr ⟨h1, h2⟩)
/-- .. among the slots that are. -/
theorem TInv.putNow {home : Nat → Int → Nat} {t : Tb} (h : TInv home 0 t) {i : Nat} (hi : i < t.now.sl.length) {key : Int} (ht : (at_ t.now.sl i).t = true) (hk : (at_ t.now.sl i).k = key) (node : Int) :
    Putted home t { t with now := { t.now with sl := t.now.sl.set i ⟨key, node, true⟩ } } key node false := by
  obtain ⟨p1, p2, p3⟩ := put_old (node := node) h.inv hi ht hk
  have hl : (t.now.sl.set i ⟨key, node, true⟩).length = t.now.sl.length := List.length_set
  have hL : Tb.len { t with now := { t.now with sl := t.now.sl.set i ⟨key, node, true⟩ } } = t.len := by simp only [Tb.len]; rw [p2]
  have hox : Has t.now.sl key (at_ t.now.sl i).n := hk ▸ Has.mk hi ht
  have hap : ∀ v, ¬ Has t.old.sl key v := fun v hv => by
    rcases h.old with ⟨h1, _⟩ | ho
    · rw [h1] at hv; exact not_has rfl _ _ hv
    · exact ho.apart _ _ _ hox hv
  refine ⟨⟨⟨h.fit.lo, h.fit.hi, hl.trans h.fit.len, h.fit.adr⟩, p1, by simp only; rw [p2]; exact h.many, ?_, by rw [hL]; simp only; rw [hl]; exact h.load, fun hp => ?_⟩, fun k v => ?_, hL, by simp, rfl, rfl⟩
  · rcases h.old with h1 | ho
    · exact .inl h1
    · refine .inr ⟨ho.fit, ho.inv, ho.many, ho.past, ho.frm, by simp only; rw [hl]; exact ho.len, fun k a b h1 h2 => ?_⟩
      rcases (p3 k a).1 h1 with ⟨rfl, _⟩ | ⟨_, h1⟩
      · exact hap _ h2
      · exact ho.apart _ _ _ h1 h2
  · rw [hL]
    exact Nat.le_trans (h.pot hp) (by simp only; omega)
  · simp only [Tb.has]
    rw [p3]
    constructor
    · rintro ((h1 | h1) | h1)
      · exact .inl h1
      · exact .inr ⟨h1.1, .inl h1.2⟩
      · refine .inr ⟨?_, .inr h1⟩
        rintro rfl
        exact hap _ h1
    · rintro (h1 | ⟨h1, h2 | h2⟩)
      · exact .inl (.inl h1)
      · exact .inl (.inr ⟨h1, h2⟩)
      · exact .inr h2
/-- A new key, for which there is room. -/
theorem TInv.putNew {home : Nat → Int → Nat} {t : Tb} (h : TInv home 0 t) {i : Nat} (hi : i < t.now.sl.length) {key : Int} (ht : (at_ t.now.sl i).t = false)
    (hr : ∀ q, q < t.now.sl.length → dst t.now.sl.length q (home t.now.bits key) < dst t.now.sl.length i (home t.now.bits key) → (at_ t.now.sl q).t = true)
    (hno : ∀ p, p < t.now.sl.length → (at_ t.now.sl p).t = true → (at_ t.now.sl p).k ≠ key) (hno2 : ∀ v, ¬ Has t.old.sl key v) (hc : 2 * (t.len + 1) ≤ t.now.sl.length) (node : Int) :
    Putted home t { t with now := { t.now with sl := t.now.sl.set i ⟨key, node, true⟩, many := t.now.many + 1 } } key node true := by
  have hl1 : t.len = cnt t.now.sl + cnt t.old.sl := rfl
  obtain ⟨p1, p2, p3⟩ := put_new (node := node) h.inv hi ht hr hno (by omega)
  have hl : (t.now.sl.set i ⟨key, node, true⟩).length = t.now.sl.length := List.length_set
  have hL : Tb.len { t with now := { t.now with sl := t.now.sl.set i ⟨key, node, true⟩, many := t.now.many + 1 } } = t.len + 1 := by simp only [Tb.len]; rw [p2]; omega
  refine ⟨⟨⟨h.fit.lo, h.fit.hi, hl.trans h.fit.len, h.fit.adr⟩, p1, by simp only; rw [p2, h.many]; simp, ?_, by rw [hL]; simp only; rw [hl]; exact hc, fun hp => ?_⟩, fun k v => ?_, hL, by simp only [true_and]; rw [if_neg (by omega), hl], rfl, rfl⟩
  · rcases h.old with h1 | ho
    · exact .inl h1
    · refine .inr ⟨ho.fit, ho.inv, ho.many, ho.past, ho.frm, by simp only; rw [hl]; exact ho.len, fun k a b h1 h2 => ?_⟩
      rcases (p3 k a).1 h1 with ⟨rfl, _⟩ | ⟨_, h1⟩
      · exact hno2 _ h2
      · exact ho.apart _ _ _ h1 h2
  · rw [hL]
    have := h.pot hp
    simp only
    omega
  · simp only [Tb.has]
    rw [p3]
    constructor
    · rintro ((h1 | h1) | h1)
      · exact .inl h1
      · exact .inr ⟨h1.1, .inl h1.2⟩
      · refine .inr ⟨?_, .inr h1⟩
        rintro rfl
        exact hno2 _ h1
    · rintro (h1 | ⟨h1, h2 | h2⟩)
      · exact .inl (.inl h1)
      · exact .inl (.inr ⟨h1, h2⟩)
      · exact .inr h2
/-- When there is no room, no key stands among the slots that were. -/
theorem TInv.full {home : Nat → Int → Nat} {t : Tb} (h : TInv home 0 t) (hf : t.now.sl.length < 2 * (t.len + 1)) : cnt t.old.sl = 0 := by
  rcases h.old with ⟨h1, _⟩ | ho
  · rw [h1]; rfl
  · refine Nat.eq_zero_of_not_pos (fun hp => ?_)
    have h1 := h.pot hp
    have h2 := ho.len
    omega
/-- What a Drop leaves. -/
structure Dropped (home : Nat → Int → Nat) (t t1 : Tb) (key : Int) (b : Bool) : Prop where
  inv : TInv home 0 t1
  has : ∀ k v, t1.has k v ↔ k ≠ key ∧ t.has k v
  len : t.len = if b = true then t1.len + 1 else t1.len
  nl : t1.now.sl.length = t.now.sl.length
  moves : t1.moves = t.moves
theorem TInv.dropNow {home : Nat → Int → Nat} {sk : Nat} {t : Tb} (h : TInv home 0 t) {i : Nat} (hi : i < t.now.sl.length) {key : Int} (ht : (at_ t.now.sl i).t = true) (hk : (at_ t.now.sl i).k = key) :
    ∃ S, clr (home t.now.bits) (t.now.sl.length + 1) t.now.sl i (nxt t.now.sl.length i) = some S ∧ Dropped home t { t with now := { t.now with sl := S, many := t.now.many - 1 } } key true := by
  obtain ⟨S, c1, c2, c3, c4, c5, c6⟩ := clr_from h.inv hi ht
  rw [hk] at c5
  have hox : Has t.now.sl key (at_ t.now.sl i).n := hk ▸ Has.mk hi ht
  have hap : ∀ v, ¬ Has t.old.sl key v := fun v hv => by
    rcases h.old with ⟨h1, _⟩ | ho
    · rw [h1] at hv; exact not_has rfl _ _ hv
    · exact ho.apart _ _ _ hox hv
  have hL : Tb.len { t with now := { t.now with sl := S, many := t.now.many - 1 } } + 1 = t.len := by simp only [Tb.len]; omega
  refine ⟨S, c1, ⟨⟨h.fit.lo, h.fit.hi, c3.trans h.fit.len, h.fit.adr⟩, c2, by have := h.many; simp only; omega, ?_, by have h1 := h.load; have h2 := hL; simp only at h2 ⊢; rw [c3]; omega, fun hp => ?_⟩, fun k v => ?_, by simp only [if_true]; exact hL.symm, c3, rfl⟩
  · rcases h.old with h1 | ho
    · exact .inl h1
    · exact .inr ⟨ho.fit, ho.inv, ho.many, ho.past, ho.frm, by simp only; rw [c3]; exact ho.len, fun k a b h1 h2 => ho.apart _ _ _ ((c5 k a).1 h1).2 h2⟩
  · have := h.pot hp
    have h2 := hL
    simp only at h2 ⊢
    omega
  · simp only [Tb.has]
    rw [c5]
    constructor
    · rintro (h1 | h1)
      · exact ⟨h1.1, .inl h1.2⟩
      · exact ⟨fun e => hap v (e ▸ h1), .inr h1⟩
    · rintro ⟨h1, h2 | h2⟩
      · exact .inl ⟨h1, h2⟩
      · exact .inr h2
theorem TInv.dropOld {home : Nat → Int → Nat} {t : Tb} (h : TInv home 0 t) (ho : Old home t) {i : Nat} (hi : i < t.old.sl.length) {key : Int} (ht : (at_ t.old.sl i).t = true) (hk : (at_ t.old.sl i).k = key) :
    ∃ S, clr (home t.old.bits) (t.old.sl.length + 1) t.old.sl i (nxt t.old.sl.length i) = some S ∧ Dropped home t { t with old := { t.old with sl := S, many := t.old.many - 1 } } key true := by
  obtain ⟨S, c1, c2, c3, c4, c5, c6⟩ := clr_from ho.inv hi ht
  rw [hk] at c5
  have hox : Has t.old.sl key (at_ t.old.sl i).n := hk ▸ Has.mk hi ht
  have hL : Tb.len { t with old := { t.old with sl := S, many := t.old.many - 1 } } + 1 = t.len := by simp only [Tb.len]; omega
  refine ⟨S, c1, ⟨h.fit, h.inv, h.many, .inr ⟨⟨ho.fit.lo, ho.fit.hi, c3.trans ho.fit.len, ho.fit.adr⟩, c2, by have := ho.many; simp only; omega, fun q hq => c6 q (ho.past q hq), by simp only; rw [c3]; exact ho.frm, by simp only; rw [c3]; exact ho.len, fun k a b h1 h2 => ho.apart _ _ _ h1 ((c5 k b).1 h2).2⟩, by have h1 := h.load; have h2 := hL; simp only at h2 ⊢; omega, fun hp => ?_⟩, fun k v => ?_, by simp only [if_true]; exact hL.symm, rfl, rfl⟩
  · have := h.pot (by omega)
    have h2 := hL
    simp only at hp h2 ⊢
    rw [c3]
    omega
  · simp only [Tb.has]
    rw [c5]
    constructor
    · rintro (h1 | h1)
      · exact ⟨fun e => ho.apart _ _ _ h1 (e ▸ hox), .inl h1⟩
      · exact ⟨h1.1, .inr h1.2⟩
    · rintro ⟨h1, h2 | h2⟩
      · exact .inl h2
      · exact .inr ⟨h1, h2⟩
theorem TInv.dropNone {home : Nat → Int → Nat} {t : Tb} (h : TInv home 0 t) {key : Int} (hno : ∀ v, ¬ t.has key v) : Dropped home t t key false :=
  ⟨h, fun k v => ⟨fun h1 => ⟨fun e => hno v (e ▸ h1), h1⟩, fun h1 => h1.2⟩, rfl, rfl, rfl⟩
/-- One node among the slots that were is written. -/
theorem TbAt.node_ {e T : TypeId} {w : World} {g : Nat} {cs : Array Value} {t : Tb} (h : TbAt e T w g cs t) {A : Nat} (hA : t.old.adr = some A) {i : Nat} (hi : i < t.old.sl.length) {key : Int} (ht : (at_ t.old.sl i).t = true) (hk : (at_ t.old.sl i).k = key) (node : Int) :
    TbAt e T (w.setCell ⟨A, i * 3 + 1, none⟩ (.int .i32 node)) g cs { t with old := { t.old with sl := t.old.sl.set i ⟨key, node, true⟩ } } ∧ Mut (t.foot g) w (t.foot g) (w.setCell ⟨A, i * 3 + 1, none⟩ (.int .i32 node)) := by
  obtain ⟨h1, h2⟩ := h.old.arr A hA
  have hx : enc ⟨key, node, true⟩ = (enc t.old.sl[i]).set 1 (.int .i32 node) := by
    rw [at_eq hi] at ht hk
    simp [enc, ht, hk]
  have hb : (w.setCell ⟨A, i * 3 + 1, none⟩ (.int .i32 node)).heap[g]? = some (.cells cs T (0, 0)) := (Below.heap_setCell w ⟨A, i * 3 + 1, none⟩ _ g (fun e => h2 e.symm)).trans h.now.blk
  refine ⟨⟨⟨hb, h.now.c0, h.now.c1, h.now.c2, fun B hB => ⟨(h.now.arr B hB).1.far (Below.heap_setCell w ⟨A, i * 3 + 1, none⟩ _ B (fun e => h.ne B hB (e ▸ hA))), (h.now.arr B hB).2⟩, h.now.non⟩, ⟨hb, h.old.c0, ?_, h.old.c2, fun B hB => ?_, fun hn => absurd (hA.symm.trans hn) (by simp)⟩, h.frm, h.mov, h.ne⟩, (Mut.refl _ w).set (p := ⟨A, i * 3 + 1, none⟩) (.inr (.inr hA)) _⟩
  · rw [h.old.c1]; simp [Rw.val]
  · obtain rfl : A = B := Option.some.inj (hA.symm.trans hB)
    exact ⟨h1.set1 enc_len hi (by decide) hx, h2⟩
/-- What a Put of (key, node) leaves behind its moves. -/
structure PutEnd (home : Nat → Int → Nat) (t t2 : Tb) (key node : Int) (b : Bool) : Prop where
  inv : TInv home 0 t2
  has : ∀ k v, t2.has k v ↔ (k = key ∧ v = node) ∨ (k ≠ key ∧ t.has k v)
  len : t2.len = if b = true then t.len + 1 else t.len
  nl : t2.now.sl.length = if b = true ∧ t.now.sl.length < 2 * (t.len + 1) then 2 * t.now.sl.length else t.now.sl.length
  lo : t.moves ≤ t2.moves
  hi : t2.moves ≤ t.moves + 4
  new : b = true ↔ ∀ v, ¬ t.has key v
  still : cnt t.old.sl = 0 → ¬ (b = true ∧ t.now.sl.length < 2 * (t.len + 1)) → t2.moves = t.moves ∧ cnt t2.old.sl = 0
theorem Putted.moved {home : Nat → Int → Nat} {t t1 t2 : Tb} {key node : Int} {b : Bool} (h : Putted home t t1 key node b) (hm : Moved home 8 4 t1 t2) (hn : b = true ↔ ∀ v, ¬ t.has key v) : PutEnd home t t2 key node b := by
  have h1 := hm.moves
  have h2 := h.moves
  have h3 := Nat.min_le_left 4 (cnt t1.old.sl)
  exact ⟨hm.inv, fun k v => (hm.has k v).trans (h.has k v), hm.len.trans h.len, hm.nl.trans h.nl, by omega, by omega, hn, fun hz _ => ⟨by rw [h1, h2, h.cntO, hz]; simp, by rw [hm.cntO, h.cntO, hz]⟩⟩
structure DropEnd (home : Nat → Int → Nat) (t t2 : Tb) (key : Int) (b : Bool) : Prop where
  inv : TInv home 0 t2
  has : ∀ k v, t2.has k v ↔ (k ≠ key ∧ t.has k v)
  len : t.len = if b = true then t2.len + 1 else t2.len
  nl : t2.now.sl.length = t.now.sl.length
  lo : t.moves ≤ t2.moves
  hi : t2.moves ≤ t.moves + 4
  there : b = false ↔ ∀ v, ¬ t.has key v
theorem Dropped.moved {home : Nat → Int → Nat} {t t1 t2 : Tb} {key : Int} {b : Bool} (h : Dropped home t t1 key b) (hm : Moved home 0 4 t1 t2) (hn : b = false ↔ ∀ v, ¬ t.has key v) : DropEnd home t t2 key b := by
  have h1 := hm.moves
  have h2 := h.moves
  have h3 := Nat.min_le_left 4 (cnt t1.old.sl)
  have h4 := hm.len
  exact ⟨by simpa using hm.inv, fun k v => (hm.has k v).trans (h.has k v), by rw [h.len, h4], hm.nl.trans h.nl, by omega, by omega, hn⟩
theorem Fit.small {r : Rw} (h : Fit r) : r.sl.length ≤ 1073741824 := by
  rw [h.len]
  exact Nat.pow_le_pow_right (by decide) h.hi
theorem TInv.isOld {home : Nat → Int → Nat} {sk : Nat} {t : Tb} (h : TInv home sk t) {i : Nat} (hi : i < t.old.sl.length) : Old home t := by
  rcases h.old with ⟨h1, _⟩ | ho
  · rw [h1] at hi; exact absurd hi (by simp [none_])
  · exact ho
/-- A table of one's own, made behind w0. -/
structure Live (e T : TypeId) (home : Nat → Int → Nat) (w0 w : World) (g : Nat) (cs : Array Value) (t : Tb) : Prop where
  tab : TbAt e T w g cs t
  inv : TInv home 0 t
  foot : ∀ k, t.foot g k → w0.heap.size ≤ k
  below : Below w0.heap.size w0 w
theorem Live.step {e T : TypeId} {home : Nat → Int → Nat} {w0 w w' : World} {g : Nat} {cs cs' : Array Value} {t t' : Tb} (h : Live e T home w0 w g cs t) (h1 : TbAt e T w' g cs' t') (h2 : TInv home 0 t') (h3 : Mut (t.foot g) w (t'.foot g) w') : Live e T home w0 w' g cs' t' :=
  ⟨h1, h2, fun k hk => (h3.foot k hk).elim (h.foot k) (fun hl => Nat.le_trans h.below.size hl), h.below.trans (h3.below h.foot h.below.size)⟩
theorem Live.drewN {e T : TypeId} {home : Nat → Int → Nat} {w0 w : World} {g : Nat} {cs : Array Value} {t : Tb} (h : Live e T home w0 w g cs t) (n : Nat) : Live e T home w0 (w.drewN n) g cs t := ⟨h.tab.drewN n, h.inv, h.foot, ⟨h.below.os, h.below.tape, h.below.output, h.below.size, h.below.block⟩⟩
theorem Live.drew {e T : TypeId} {home : Nat → Int → Nat} {w0 w : World} {g : Nat} {cs : Array Value} {t : Tb} (h : Live e T home w0 w g cs t) : Live e T home w0 w.drew g cs t := ⟨h.tab.drew, h.inv, h.foot, ⟨h.below.os, h.below.tape, h.below.output, h.below.size, h.below.block⟩⟩
/-- Something else has been done. -/
theorem Live.other {e T : TypeId} {home : Nat → Int → Nat} {w0 w w' : World} {g : Nat} {cs : Array Value} {t : Tb} (h : Live e T home w0 w g cs t) (hb : Below w.heap.size w w') : Live e T home w0 w' g cs t :=
  ⟨h.tab.far (fun k hk => hb.block k (h.tab.lt k hk)), h.inv, h.foot, h.below.trans (hb.mono h.below.size)⟩
theorem bits_lt {r : Rw} (h : Fit r) {n : Nat} (hn : r.sl.length ≤ n) (h2 : n < 1073741824) : r.bits < 30 := by
  rcases Nat.lt_or_ge r.bits 30 with h1 | h1
  · exact h1
  · have := h.len
    have h3 := Nat.pow_le_pow_right (show 0 < 2 by decide) h1
    have : (2 : Nat) ^ 30 = 1073741824 := by decide
    omega
/-- The keys of slots, in the slots' order. -/
def keysOf (s : List Sl) : List Int := (s.filter (·.t)).map (·.k)
theorem keysOf_take {s : List Sl} {j : Nat} (hj : j < s.length) : keysOf (s.take (j + 1)) = keysOf (s.take j) ++ if (at_ s j).t = true then [(at_ s j).k] else [] := by
  unfold keysOf
  rw [List.take_succ_eq_append_getElem hj, List.filter_append, List.map_append, at_eq hj]
  congr 1
  cases hb : s[j].t <;> simp [hb]
theorem keysOf_len (s : List Sl) : (keysOf s).length = cnt s := by
  unfold keysOf cnt
  rw [List.length_map, List.countP_eq_length_filter]
theorem mem_keysOf {s : List Sl} {k : Int} : k ∈ keysOf s ↔ ∃ v, Has s k v := by
  unfold keysOf Has
  constructor
  · intro h
    obtain ⟨x, hx, rfl⟩ := List.mem_map.1 h
    obtain ⟨h1, h2⟩ := List.mem_filter.1 hx
    obtain ⟨p, hp, he⟩ := List.getElem_of_mem h1
    refine ⟨x.n, p, hp, ?_⟩
    rw [at_eq hp, he]
    cases x
    simp only at h2
    rw [h2]
  · rintro ⟨v, p, hp, he⟩
    refine List.mem_map.2 ⟨⟨k, v, true⟩, List.mem_filter.2 ⟨?_, rfl⟩, rfl⟩
    rw [← he, at_eq hp]
    exact List.getElem_mem hp
theorem nodup_keysOf {home : Int → Nat} {s : List Sl} (h : Inv home s) : (keysOf s).Nodup := by
  unfold keysOf
  rw [List.Nodup, List.pairwise_map, List.pairwise_filter, List.pairwise_iff_getElem]
  intro i j hi hj hij h1 h2 he
  have := h.uniq i j hi hj (by rw [at_eq hi]; exact h1) (by rw [at_eq hj]; exact h2) (by rw [at_eq hi, at_eq hj]; exact he)
  omega
theorem nodup_keys {home : Nat → Int → Nat} {sk : Nat} {t : Tb} (h : TInv home sk t) : (keysOf t.now.sl ++ keysOf t.old.sl).Nodup := by
  rw [List.nodup_append]
  refine ⟨nodup_keysOf h.inv, ?_, fun a ha b hb hab => ?_⟩
  · rcases h.old with ⟨h1, _⟩ | ho
    · rw [h1]; exact List.nodup_nil
    · exact nodup_keysOf ho.inv
  · subst hab
    obtain ⟨v, hv⟩ := mem_keysOf.1 ha
    obtain ⟨u, hu⟩ := mem_keysOf.1 hb
    rcases h.old with ⟨h1, _⟩ | ho
    · rw [h1] at hu; exact not_has rfl _ _ hu
    · exact ho.apart _ _ _ hv hu
end Tab
end Go.Proofs.YtdjbpdahdakfjaaH
