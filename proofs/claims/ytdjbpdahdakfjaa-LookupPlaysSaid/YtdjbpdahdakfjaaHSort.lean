/- A row of keys as slices.Sort sees it: what it holds, and that nothing else turns. -/
import Derived.Test.YtdjbpdahdakfjaaHSep
import Derived.Sort.LotD3
import Derived.Sort.LotA
import Derived.Sort.LotB
import Derived.Sort.LotC
import Derived.Sort.LotD5
import Derived.Sort.LotD1
import Derived.Sort.Row
import Derived.RegionTactic
import Derived.Deep.DeepCutAuto
import Derived.Deep.QuietTactic
namespace Go.Proofs.YtdjbpdahdakfjaaH.Srt
open Go.RowKit Go.Proofs.YtdjbpdahdakfjaaW.PrintWords Go.Sort
set_option linter.unusedVariables false

/-- A quiet call behind draws, which draws nothing. -/
theorem quiet_same {P : Program} {f : FuncId} {args : Array Value} {w : World} {a n : Nat} {v : Value} (h : Calls P f args (w.drewN (a + n)) fun e w' => e = .returned v ∧ w' = w.drewN (a + n)) :
    Calls P f args (w.drewN (a + n)) fun e w'' => e = .returned v ∧ ∃ m, w'' = w.drewN (a + m) := h.mono fun _ _ ⟨he, hm⟩ => ⟨he, n, hm⟩
abbrev encU (x : Int) : Value := .int .u64 x
/-- Block A holds the keys d from 'off' on; C is what it held at first. -/
structure Dat (w : World) (A off : Nat) (T : TypeId) (C : Array Value) (d : Array Int) : Prop where
  blk : w.heap[A]? = some (.cells (putCells encU off d C) T (0, 0))
  fit : off + d.size ≤ C.size
/-- Nothing but block A turns, of those that were. -/
abbrev Only (A : Nat) (w w' : World) : Prop := Mut (fun k => k = A) w (fun k => k = A) w'
variable {w w' : World} {A off : Nat} {T : TypeId} {C : Array Value} {d : Array Int}
theorem Dat.cell (h : Dat w A off T C d) {i : Nat} (hi : i < d.size) : w.cell? ⟨A, off + i, none⟩ = some (.int .u64 d[i]!) := by
  have hf := h.fit
  rw [blk_cell h.blk]
  simp only [putCells, Array.getElem?_mapIdx]
  rw [Array.getElem?_eq_getElem (by omega), Option.map_some, if_pos ⟨by omega, by omega⟩, show off + i - off = i by omega]
theorem Dat.frozen (h : Dat w A off T C d) (k : Nat) : w.frozen? ⟨A, k, none⟩ = false := blk_frozen h.blk k
theorem Dat.drewN (h : Dat w A off T C d) (n : Nat) : Dat (w.drewN n) A off T C d := ⟨h.blk, h.fit⟩
theorem Dat.drew (h : Dat w A off T C d) : Dat w.drew A off T C d := ⟨h.blk, h.fit⟩
theorem Dat.set (h : Dat w A off T C d) {i : Nat} (hi : i < d.size) (x : Int) : Dat (w.setCell ⟨A, off + i, none⟩ (.int .u64 x)) A off T C (d.setIfInBounds i x) :=
  ⟨by rw [blk_set h.blk, putCells_set encU off d C i x hi], by simpa using h.fit⟩
theorem Dat.swap (h : Dat w A off T C d) {i j : Nat} (hi : i < d.size) (hj : j < d.size) : Dat ((w.setCell ⟨A, off + i, none⟩ (.int .u64 d[j]!)).setCell ⟨A, off + j, none⟩ (.int .u64 d[i]!)) A off T C (swp d i j) :=
  (h.set hi _).set (by simpa using hj) _
theorem Dat.far (h : Dat w A off T C d) (hb : w'.heap[A]? = w.heap[A]?) : Dat w' A off T C d := ⟨hb.trans h.blk, h.fit⟩
theorem Dat.below (h : Dat w A off T C d) (hb : Below w.heap.size w w') : Dat w' A off T C d := h.far (hb.block A (blk_lt h.blk))
theorem only_swap (h : Only A w w') (i j : Nat) (x y : Value) : Only A w ((w'.setCell ⟨A, i, none⟩ x).setCell ⟨A, j, none⟩ y) := (h.set (p := ⟨A, i, none⟩) rfl _).set (p := ⟨A, j, none⟩) rfl _
theorem swp_size (d : Array Int) (i j : Nat) : (swp d i j).size = d.size := by simp [swp]
theorem insInner_go {a j : Nat} {d : Array Int} (h : a < j + 1) (hl : ltInt d[j + 1]! d[j]! = true) : insInner ltInt a (j + 1) d = insInner ltInt a j (swp d (j + 1) j) := by
  rw [insInner, if_pos (by simp [hl]; omega)]
theorem insInner_no {a j : Nat} {d : Array Int} (hl : ltInt d[j + 1]! d[j]! = false) : insInner ltInt a (j + 1) d = d := by
  rw [insInner, if_neg (by simp [hl])]
theorem insInner_end {a j : Nat} {d : Array Int} (h : j ≤ a) : insInner ltInt a j d = d := by
  cases j with
  | zero => rfl
  | succ j => rw [insInner, if_neg (by simp; omega)]
theorem insOuter_go {a b i : Nat} {d : Array Int} (h : i < b) : insOuter ltInt a b i d = insOuter ltInt a b (i + 1) (insInner ltInt a i d) := by
  rw [insOuter, if_pos h]
theorem insOuter_end {a b i : Nat} {d : Array Int} (h : b ≤ i) : insOuter ltInt a b i d = d := by
  rw [insOuter, if_neg (by omega)]
theorem scan_go {b j : Nat} {d : Array Int} (h : j < b) (hl : ltInt d[j]! d[j - 1]! = false) : scanSorted ltInt d b j = scanSorted ltInt d b (j + 1) := by
  rw [scanSorted, if_pos (by simp [h, hl])]
theorem scan_stop {b j : Nat} {d : Array Int} (hl : ltInt d[j]! d[j - 1]! = true) : scanSorted ltInt d b j = j := by
  rw [scanSorted, if_neg (by simp [hl])]
theorem scan_end {b j : Nat} {d : Array Int} (h : b ≤ j) : scanSorted ltInt d b j = j := by
  rw [scanSorted, if_neg (by simp; omega)]
theorem down_go {j : Nat} {d : Array Int} (hl : ltInt d[j + 1]! d[j]! = true) : shiftDown ltInt (j + 1) d = shiftDown ltInt j (swp d (j + 1) j) := by
  rw [shiftDown, if_neg (by simp [hl])]
theorem down_stop {j : Nat} {d : Array Int} (hl : ltInt d[j + 1]! d[j]! = false) : shiftDown ltInt (j + 1) d = d := by
  rw [shiftDown, if_pos (by simp [hl])]
theorem up_go {b j : Nat} {d : Array Int} (h : j < b) (hl : ltInt d[j]! d[j - 1]! = true) : shiftUp ltInt b j d = shiftUp ltInt b (j + 1) (swp d j (j - 1)) := by
  rw [shiftUp, if_pos h, if_neg (by simp [hl])]
theorem up_stop {b j : Nat} {d : Array Int} (hl : ltInt d[j]! d[j - 1]! = false) : shiftUp ltInt b j d = d := by
  rw [shiftUp]
  split
  · rw [if_pos (by simp [hl])]
  · rfl
theorem up_end {b j : Nat} {d : Array Int} (h : b ≤ j) : shiftUp ltInt b j d = d := by
  rw [shiftUp, if_neg (by omega)]
theorem pi_true {a b s i : Nat} {d : Array Int} (h : scanSorted ltInt d b i = b) : partialIns ltInt a b (s + 1) i d = (d, true) := by
  rw [partialIns]; simp only [h, if_true]
theorem pi_small {a b s i j : Nat} {d : Array Int} (h : scanSorted ltInt d b i = j) (hj : j ≠ b) (h50 : b - a < 50) : partialIns ltInt a b (s + 1) i d = (d, false) := by
  rw [partialIns]; simp only [h]; rw [if_neg hj, if_pos h50]
theorem pi_go {a b s i j : Nat} {d D E : Array Int} (h : scanSorted ltInt d b i = j) (hj : j ≠ b) (h50 : ¬ b - a < 50) (hD : D = if j - a ≥ 2 then shiftDown ltInt (j - 1) (swp d j (j - 1)) else swp d j (j - 1)) (hE : E = if b - j ≥ 2 then shiftUp ltInt b (j + 1) D else D) :
    partialIns ltInt a b (s + 1) i d = partialIns ltInt a b s j E := by
  rw [partialIns]; simp only [h]; rw [if_neg hj, if_neg h50, ← hD, ← hE]
section
variable {p : Int → Bool}
theorem su_go {i j : Nat} {d : Array Int} (h : i ≤ j) (hp : p d[i]! = true) : scanUp p d j i = scanUp p d j (i + 1) := by
  rw [scanUp, if_pos (by simp [h, hp])]
theorem su_stop {i j : Nat} {d : Array Int} (hp : p d[i]! = false) : scanUp p d j i = i := by
  rw [scanUp, if_neg (by simp [hp])]
theorem su_end {i j : Nat} {d : Array Int} (h : j < i) : scanUp p d j i = i := by
  rw [scanUp, if_neg (by simp; omega)]
theorem sd_go {i j : Nat} {d : Array Int} (h : i ≤ j) (hi : 1 ≤ i) (hp : p d[j]! = true) : scanDown p d i j = scanDown p d i (j - 1) := by
  obtain ⟨j, rfl⟩ : ∃ m, j = m + 1 := ⟨j - 1, by omega⟩
  rw [scanDown, if_pos (by simp [h, hp])]
  rfl
theorem sd_stop {i j : Nat} {d : Array Int} (hp : p d[j]! = false) : scanDown p d i j = j := by
  cases j with
  | zero => rfl
  | succ j => rw [scanDown, if_neg (by simp [hp])]
theorem sd_end {i j : Nat} {d : Array Int} (h : j < i) : scanDown p d i j = j := by
  cases j with
  | zero => rfl
  | succ j => rw [scanDown, if_neg (by simp; omega)]
end
theorem pe_end {a i j x y : Nat} {d : Array Int} (h1 : scanUp (fun x => !ltInt d[a]! x) d j i = x) (h2 : scanDown (fun x => ltInt d[a]! x) d x j = y) (h : y < x) : partEqLoop ltInt a i j d = (x, d) := by
  rw [partEqLoop_eq, h1, h2, if_pos h]
theorem pe_go {a i j x y : Nat} {d : Array Int} (h1 : scanUp (fun x => !ltInt d[a]! x) d j i = x) (h2 : scanDown (fun x => ltInt d[a]! x) d x j = y) (h : x ≤ y) : partEqLoop ltInt a i j d = partEqLoop ltInt a (x + 1) (y - 1) (swp d x y) := by
  rw [partEqLoop_eq, h1, h2, if_neg (by omega)]
theorem pl_end {a i j x y : Nat} {d : Array Int} (h1 : scanUp (fun x => ltInt x d[a]!) d j i = x) (h2 : scanDown (fun x => !ltInt x d[a]!) d x j = y) (h : y < x) : partLoop ltInt a i j d = (y, d) := by
  rw [partLoop_eq, h1, h2, if_pos h]
theorem pl_go {a i j x y : Nat} {d : Array Int} (h1 : scanUp (fun x => ltInt x d[a]!) d j i = x) (h2 : scanDown (fun x => !ltInt x d[a]!) d x j = y) (h : x ≤ y) : partLoop ltInt a i j d = partLoop ltInt a (x + 1) (y - 1) (swp d x y) := by
  rw [partLoop_eq, h1, h2, if_neg (by omega)]
theorem part_end {a b pv x y : Nat} {d d1 : Array Int} (h0 : d1 = swp d a pv) (h1 : scanUp (fun x => ltInt x d1[a]!) d1 (b - 1) (a + 1) = x) (h2 : scanDown (fun x => !ltInt x d1[a]!) d1 x (b - 1) = y) (h : y < x) : partition ltInt d a b pv = (y, true, swp d1 y a) := by
  unfold partition
  simp only [← h0, h1, h2]
  rw [if_pos h]
theorem part_go {a b pv x y z : Nat} {d d1 d2 : Array Int} (h0 : d1 = swp d a pv) (h1 : scanUp (fun x => ltInt x d1[a]!) d1 (b - 1) (a + 1) = x) (h2 : scanDown (fun x => !ltInt x d1[a]!) d1 x (b - 1) = y) (h : x ≤ y) (h3 : partLoop ltInt a (x + 1) (y - 1) (swp d1 x y) = (z, d2)) : partition ltInt d a b pv = (z, false, swp d2 z a) := by
  unfold partition
  simp only [← h0, h1, h2]
  rw [if_neg (by omega), h3]
/-- A count stands in a block of its own. -/
structure Box (w : World) (S : Nat) (s : Int) : Prop where
  blk : w.heap[S]? = some (.cells #[.int .i64 s] 3 (0, 0))
theorem Box.cell {S : Nat} {s : Int} (h : Box w S s) : w.cell? ⟨S, 0, none⟩ = some (.int .i64 s) := blk_cell h.blk 0
theorem Box.frozen {S : Nat} {s : Int} (h : Box w S s) : w.frozen? ⟨S, 0, none⟩ = false := blk_frozen h.blk 0
theorem Box.drewN {S : Nat} {s : Int} (h : Box w S s) (n : Nat) : Box (w.drewN n) S s := ⟨h.blk⟩
theorem Box.set {S : Nat} {s : Int} (h : Box w S s) (x : Int) : Box (w.setCell ⟨S, 0, none⟩ (.int .i64 x)) S x := ⟨by rw [blk_set h.blk]; rfl⟩
theorem Dat.mut {F F' : Foot} (h : Dat w A off T C d) (hm : Mut F w F' w') (hA : ¬ F A) : Dat w' A off T C d := h.far (hm.block A (blk_lt h.blk) hA)
/-- How many swaps the pivot's choice counts at most. -/
theorem order2_le (d : Array Int) (a b s : Nat) : s ≤ (order2 ltInt d a b s).2.2 ∧ (order2 ltInt d a b s).2.2 ≤ s + 1 := by
  unfold order2
  split <;> simp
theorem order2_in (d : Array Int) {a b s n : Nat} (ha : a < n) (hb : b < n) : (order2 ltInt d a b s).1 < n ∧ (order2 ltInt d a b s).2.1 < n := by
  unfold order2
  split <;> exact ⟨by assumption, by assumption⟩
theorem median_le (d : Array Int) (a b c s : Nat) : (median ltInt d a b c s).2 ≤ s + 3 := by
  unfold median
  have h1 := order2_le d a b s
  have h2 := order2_le d (order2 ltInt d a b s).2.1 c (order2 ltInt d a b s).2.2
  have h3 := order2_le d (order2 ltInt d a b s).1 (order2 ltInt d (order2 ltInt d a b s).2.1 c (order2 ltInt d a b s).2.2).1 (order2 ltInt d (order2 ltInt d a b s).2.1 c (order2 ltInt d a b s).2.2).2.2
  simp only
  omega
theorem median_in (d : Array Int) {a b c s n : Nat} (ha : a < n) (hb : b < n) (hc : c < n) : (median ltInt d a b c s).1 < n := by
  rcases median_mem ltInt d a b c s with h | h | h <;> rw [h] <;> assumption
/-- A hint's number. -/
def hintNo : Hint → Int
  | .unknown => 0
  | .increasing => 1
  | .decreasing => 2
theorem choose_small {d : Array Int} {a b q j s : Nat} (h8 : 8 ≤ b - a) (h50 : b - a < 50) (hq : (b - a) / 4 = q) (hm : median ltInt d (a + q) (a + q * 2) (a + q * 3) 0 = (j, s)) : choosePivot ltInt d a b = (j, if s = 0 then .increasing else if s = 12 then .decreasing else .unknown) := by
  unfold choosePivot
  simp only [hq, Nat.mul_one]
  rw [if_pos (by omega), if_neg (by omega), hm]
theorem choose_great {d : Array Int} {a b q i j k j2 s1 s2 s3 s4 : Nat} (h50 : 50 ≤ b - a) (hq : (b - a) / 4 = q) (h1 : medianAdjacent ltInt d (a + q) 0 = (i, s1)) (h2 : medianAdjacent ltInt d (a + q * 2) s1 = (j, s2)) (h3 : medianAdjacent ltInt d (a + q * 3) s2 = (k, s3)) (hm : median ltInt d i j k s3 = (j2, s4)) :
    choosePivot ltInt d a b = (j2, if s4 = 0 then .increasing else if s4 = 12 then .decreasing else .unknown) := by
  unfold choosePivot
  simp only [hq, Nat.mul_one]
  rw [if_pos (by omega), if_pos (by omega)]
  simp only [h1, h2, h3, hm]
theorem widen {F G : Foot} {w w' : World} (h : Mut G w G w') (hf : ∀ k, G k → F k) : Mut F w F w' := ⟨h.os, h.tape, h.output, h.size, fun k hk hn => h.block k hk (fun hg => hn (hf k hg)), fun _ hk => .inl hk⟩
theorem only_of {A : Nat} {w w' : World} {G : Foot} (h : Mut (fun k => k = A ∨ w.heap.size ≤ k) w G w') : Only A w w' := ⟨h.os, h.tape, h.output, h.size, fun k hk hn => h.block k hk (fun hg => hg.elim hn (fun hl => by omega)), fun _ hk => .inl hk⟩
/-- The rounds that break patterns. -/
def brk (a length modulus : Nat) : Nat → Nat → UInt64 × Array Int → Array Int
  | 0, _, st => st.2
  | k + 1, idx, st => brk a length modulus k (idx + 1) (breakStep a length modulus st idx)
theorem brk_eq {d : Array Int} {a b l : Nat} (h : b - a = l) (h8 : 8 ≤ l) : breakPatterns d a b = brk a l (2 ^ bitsLen l) 3 (a + l / 4 * 2 - 1) (UInt64.ofNat l, d) := by
  unfold breakPatterns
  simp only [h]
  rw [if_pos h8, Nat.one_shiftLeft]
  rfl
theorem brk_step {a l m idx o : Nat} {r : UInt64} {d : Array Int} (ho : (if (xorNext r).toNat &&& (m - 1) ≥ l then ((xorNext r).toNat &&& (m - 1)) - l else (xorNext r).toNat &&& (m - 1)) = o) : breakStep a l m (r, d) idx = (xorNext r, swp d idx (a + o)) := by
  unfold breakStep
  simp only [ho]
/-- What stands while a row is sorted from a on up to b: a part of it is left. -/
structure PInv (n a b : Nat) (d : Array Int) (a1 b1 : Nat) (dk : Array Int) : Prop where
  size : dk.size = n
  bel : Go.Sort.Below ltInt a1 b1 dk
  all : ∀ R, PermIn a1 b1 dk R → SortedIn ltInt a1 b1 R → PermIn a b d R ∧ SortedIn ltInt a b R
section
variable {n a b a1 b1 : Nat} {dk d' : Array Int}
theorem PInv.start (hs : d.size = n) (h : Go.Sort.Below ltInt a b d) : PInv n a b d a b d := ⟨hs, h, fun _ h1 h2 => ⟨h1, h2⟩⟩
theorem PInv.perm (h : PInv n a b d a1 b1 dk) (hb : b1 ≤ n) (hp : PermIn a1 b1 dk d') : PInv n a b d a1 b1 d' :=
  ⟨hp.1.trans h.size, h.bel.perm (by rw [h.size]; exact hb) hp, fun R h1 h2 => h.all R (permIn_trans _ _ _ _ _ hp h1) h2⟩
theorem PInv.done (h : PInv n a b d a1 b1 dk) (hp : PermIn a1 b1 dk d' ∧ SortedIn ltInt a1 b1 d') : d'.size = n ∧ PermIn a b d d' ∧ SortedIn ltInt a b d' := ⟨hp.1.1.trans h.size, h.all d' hp.1 hp.2⟩
theorem PInv.eq {pv : Nat} (h : PInv n a b d a1 b1 dk) (h0 : 0 < a1) (hp1 : a1 ≤ pv) (hp2 : pv < b1) (hb : b1 ≤ n) (hnl : ltInt dk[a1 - 1]! dk[pv]! = false) :
    a1 < (partitionEqual ltInt dk a1 b1 pv).1 ∧ (partitionEqual ltInt dk a1 b1 pv).1 ≤ b1 ∧ PInv n a b d (partitionEqual ltInt dk a1 b1 pv).1 b1 (partitionEqual ltInt dk a1 b1 pv).2 := by
  obtain ⟨r1, r2, r3, r4, r5⟩ := round_eq swo_ltInt (partitionEqual_holds ltInt) h0 hp1 hp2 (by rw [h.size]; exact hb) h.bel hnl (mid := (partitionEqual ltInt dk a1 b1 pv).1) (d4 := (partitionEqual ltInt dk a1 b1 pv).2) rfl
  exact ⟨r1, r2, r3.trans h.size, r4, fun R h1 h2 => h.all R (r5 R h1 h2).1 (r5 R h1 h2).2⟩
/-- What the partition leaves: both sides, and how one goes on when one of them is sorted. -/
theorem PInv.part {pv : Nat} (h : PInv n a b d a1 b1 dk) (hp1 : a1 ≤ pv) (hp2 : pv < b1) (hb : b1 ≤ n) :
    a1 ≤ (partition ltInt dk a1 b1 pv).1 ∧ (partition ltInt dk a1 b1 pv).1 < b1 ∧ (partition ltInt dk a1 b1 pv).2.2.size = n ∧
      Go.Sort.Below ltInt a1 (partition ltInt dk a1 b1 pv).1 (partition ltInt dk a1 b1 pv).2.2 ∧ Go.Sort.Below ltInt ((partition ltInt dk a1 b1 pv).1 + 1) b1 (partition ltInt dk a1 b1 pv).2.2 ∧
      (∀ L, PermIn a1 (partition ltInt dk a1 b1 pv).1 (partition ltInt dk a1 b1 pv).2.2 L → SortedIn ltInt a1 (partition ltInt dk a1 b1 pv).1 L → PInv n a b d ((partition ltInt dk a1 b1 pv).1 + 1) b1 L) ∧
      (∀ L, PermIn ((partition ltInt dk a1 b1 pv).1 + 1) b1 (partition ltInt dk a1 b1 pv).2.2 L → SortedIn ltInt ((partition ltInt dk a1 b1 pv).1 + 1) b1 L → PInv n a b d a1 (partition ltInt dk a1 b1 pv).1 L) := by
  obtain ⟨r1, r2, r3, r4, r5, r6, r7⟩ := round_part swo_ltInt (partition_holds ltInt) hp1 hp2 (by rw [h.size]; exact hb) h.bel (mid := (partition ltInt dk a1 b1 pv).1) (ap := (partition ltInt dk a1 b1 pv).2.1) (d4 := (partition ltInt dk a1 b1 pv).2.2) rfl
  have hs := r3.trans h.size
  exact ⟨r1, r2, hs, r4, r5, fun L h1 h2 => ⟨h1.1.trans hs, (r6 L h1 h2).1, fun R h3 h4 => h.all R ((r6 L h1 h2).2 R h3 h4).1 ((r6 L h1 h2).2 R h3 h4).2⟩,
    fun L h1 h2 => ⟨h1.1.trans hs, (r7 L h1 h2).1, fun R h3 h4 => h.all R ((r7 L h1 h2).2 R h3 h4).1 ((r7 L h1 h2).2 R h3 h4).2⟩⟩
end
/-- A row that is permuted, and sorted, as lists. -/
theorem sorted_list {d R : Array Int} (hp : PermIn 0 d.size d R) (hs : SortedIn ltInt 0 d.size R) : R.toList.Perm d.toList ∧ R.toList.Pairwise (· ≤ ·) := by
  obtain ⟨h1, h2, h3⟩ := hp
  refine ⟨by simp only [Array.toList_extract, List.extract_eq_take_drop, Nat.sub_zero, List.drop_zero] at h3; rwa [List.take_of_length_le (by simp [h1]), List.take_of_length_le (by simp)] at h3, ?_⟩
  rw [List.pairwise_iff_getElem]
  intro i j hi hj hij
  have := hs i j (Nat.zero_le _) hij (by simpa [h1] using hj)
  rw [getElem!_pos R i (by simpa using hi), getElem!_pos R j (by simpa using hj)] at this
  simp only [ltInt, decide_eq_false_iff_not] at this
  simp only [Array.getElem_toList]
  omega
theorem rev_go {i j : Nat} {d : Array Int} (h : i < j) : reverseLoop i j d = reverseLoop (i + 1) (j - 1) (swp d i j) := by
  rw [reverseLoop, if_pos h]
theorem rev_end {i j : Nat} {d : Array Int} (h : j ≤ i) : reverseLoop i j d = d := by
  rw [reverseLoop, if_neg (by omega)]
theorem sift_end {hi F r : Nat} {d : Array Int} (h : hi ≤ 2 * r + 1) : siftDown ltInt hi F r d = d := by
  rw [siftDown, dif_pos h]
theorem sift_size (hi F : Nat) : ∀ (k r : Nat) (d : Array Int), hi - r ≤ k → (siftDown ltInt hi F r d).size = d.size := by
  intro k
  induction k with
  | zero => intro r d h; rw [siftDown, dif_pos (by omega)]
  | succ k ih =>
    intro r d h
    rw [siftDown]
    split
    · rfl
    · split <;> split <;> try rfl
      · split
        · rw [ih _ _ (by omega), swp_size]
        · rfl
      · rw [ih _ _ (by omega), swp_size]
theorem sift_eq {hi F r c : Nat} {d : Array Int} (h : 2 * r + 1 < hi) (hc : (c = 2 * r + 2 ∧ 2 * r + 2 < hi ∧ ltInt d[F + (2 * r + 1)]! d[F + (2 * r + 1) + 1]! = true) ∨ (c = 2 * r + 1 ∧ ¬ (2 * r + 2 < hi ∧ ltInt d[F + (2 * r + 1)]! d[F + (2 * r + 1) + 1]! = true))) :
    siftDown ltInt hi F r d = if ltInt d[F + r]! d[F + c]! = true then siftDown ltInt hi F c (swp d (F + r) (F + c)) else d := by
  rw [siftDown, dif_neg (by omega)]
  rcases hc with ⟨rfl, h1, h2⟩ | ⟨rfl, h1⟩
  · rw [if_pos (by simp [h2]; omega)]
    cases hl : ltInt d[F + r]! d[F + (2 * r + 2)]! with
    | true => simp [h1]
    | false => simp
  · rw [if_neg (by simp only [Bool.and_eq_true, decide_eq_true_eq]; exact fun h => h1 ⟨by omega, h.2⟩)]
    cases hl : ltInt d[F + r]! d[F + (2 * r + 1)]! with
    | true => simp
    | false => simp
/-- A row of keys of one's own is nil, or stands at the head of a block. -/
theorem dat_of_own {base : Nat} {v : Value} {l : List Int} (h : w.ownsRow base T 1 v l.length (encs encU l)) :
    (v = .slice none 0 0 ∧ l = []) ∨ ∃ g cap cur, v = .slice (some ⟨g, 0, none⟩) l.length cap ∧ base ≤ g ∧ Dat w g 0 T cur l.toArray ∧ l.length ≤ cap ∧ cap ≤ maxLen ∧ cur.size = cap := by
  obtain ⟨h1, h2⟩ := h
  rcases h2 with ⟨rfl, h2⟩ | ⟨g, cap, cur, rfl, hg, hh, hn, hm, hs, ht⟩
  · exact .inl ⟨rfl, List.length_eq_zero_iff.1 h2⟩
  · refine .inr ⟨g, cap, cur, rfl, hg, ⟨?_, by simp; omega⟩, hn, hm, by omega⟩
    rw [hh]
    congr 2
    apply Array.ext_getElem?
    intro k
    simp only [putCells, Array.getElem?_mapIdx]
    by_cases hk : k < l.length
    · have hkc : k < cur.size := by omega
      have h3 : (cur.toList.take (l.length * 1))[k]? = (encs encU l)[k]? := by rw [ht]
      rw [List.getElem?_take_of_lt (by omega)] at h3
      simp only [Array.getElem?_toList, encs, List.getElem?_map] at h3
      rw [Array.getElem?_eq_getElem hkc, List.getElem?_eq_getElem hk] at h3
      rw [Array.getElem?_eq_getElem hkc, Option.map_some, if_pos ⟨Nat.zero_le _, by simpa using hk⟩, Nat.sub_zero, getElem!_pos l.toArray k (by simpa using hk)]
      simpa using h3
    · cases cur[k]? with
      | none => rfl
      | some y => rw [Option.map_some, if_neg (by simp; omega)]
theorem own_of_dat {base g cap : Nat} {R : Array Int} (h : Dat w g 0 T C R) (hb : base ≤ g) (hn : R.size ≤ cap) (hm : cap ≤ maxLen) (hs : C.size = cap) :
    w.ownsRow base T 1 (.slice (some ⟨g, 0, none⟩) R.size cap) R.toList.length (encs encU R.toList) := by
  refine ⟨by simp [encs], .inr ⟨g, cap, _, by simp, hb, h.blk, by simpa using hn, hm, by simp [putCells, hs], ?_⟩⟩
  apply List.ext_getElem?
  intro k
  have hf := h.fit
  by_cases hk : k < R.size
  · rw [List.getElem?_take_of_lt (by simp; exact hk)]
    simp only [putCells, Array.getElem?_toList, Array.getElem?_mapIdx, encs, List.getElem?_map]
    rw [Array.getElem?_eq_getElem (by omega), Option.map_some, if_pos ⟨Nat.zero_le _, by omega⟩, Nat.sub_zero, getElem!_pos R k hk, Array.getElem?_eq_getElem hk]
    rfl
  · rw [List.getElem?_eq_none (by simp [putCells]; omega), List.getElem?_eq_none (by simp [encs]; omega)]
end Go.Proofs.YtdjbpdahdakfjaaH.Srt
