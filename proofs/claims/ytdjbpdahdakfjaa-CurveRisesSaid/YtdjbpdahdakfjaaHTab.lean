/- Slots in which a key stands at its own one, or behind: what the code does with them, and masks. -/
import Derived.Test.YtdjbpdahdakfjaaHSep
namespace Go.Proofs.YtdjbpdahdakfjaaH
open Go.RowKit Go.Proofs.YtdjbpdahdakfjaaW.PrintWords
set_option linter.unusedVariables false

/-- A slot: a key, its node, is it taken? -/
structure Sl where
  k : Int
  n : Int
  t : Bool
deriving DecidableEq
namespace Tab
def z : Sl := ⟨0, 0, false⟩
def at_ (s : List Sl) (i : Nat) : Sl := s.getD i z
theorem at_eq {s : List Sl} {i : Nat} (h : i < s.length) : at_ s i = s[i] := by simp [at_, List.getD_eq_getElem?_getD, List.getElem?_eq_getElem h]
def nxt (n i : Nat) : Nat := if i + 1 < n then i + 1 else 0
def dst (n a b : Nat) : Nat := if b ≤ a then a - b else a + n - b
/-- From a place on: the key's place, or the first free one. -/
def probe (s : List Sl) (key : Int) : Nat → Nat → Option (Nat × Bool)
  | 0, _ => none
  | f + 1, i => if (at_ s i).t = true then (if (at_ s i).k = key then some (i, true) else probe s key f (nxt s.length i)) else some (i, false)
/-- A place is freed; those behind it that may go back do. -/
def clr (home : Int → Nat) : Nat → List Sl → Nat → Nat → Option (List Sl)
  | 0, _, _, _ => none
  | f + 1, s, i, k => if (at_ s k).t = true then (if dst s.length k i ≤ dst s.length k (home (at_ s k).k) then clr home f (s.set i (at_ s k)) k (nxt s.length k) else clr home f s i (nxt s.length k)) else some (s.set i z)
/-- Slots: how many bits, where they lie, how many are taken. -/
structure Rw where
  bits : Nat
  adr : Option Nat
  sl : List Sl
  many : Int
def Rw.val (r : Rw) : Value := .slice (r.adr.map fun A => (⟨A, 0, none⟩ : Addr)) r.sl.length r.sl.length
def enc (s : Sl) : List Value := [.int .u64 s.k, .int .i32 s.n, .bool s.t]
theorem enc_len (s : Sl) : (enc s).length = 3 := rfl
/-- Slots as a part of a block (from o on), type T; their elements are of type e. -/
structure RwAt (e T : TypeId) (w : World) (g o : Nat) (cs : Array Value) (r : Rw) : Prop where
  blk : w.heap[g]? = some (.cells cs T (0, 0))
  c0 : cs[o]? = some (.int .i64 (r.bits : Int))
  c1 : cs[o + 1]? = some r.val
  c2 : cs[o + 2]? = some (.int .i64 r.many)
  arr : ∀ A, r.adr = some A → Arr enc w A e r.sl ∧ A ≠ g
  non : r.adr = none → r.sl = []
theorem arr_cell {w : World} {A : Nat} {e : TypeId} {s : List Sl} (h : Arr enc w A e s) {i : Nat} (hi : i < s.length) :
    w.cell? ⟨A, i * 3, none⟩ = some (.int .u64 (at_ s i).k) ∧ w.cell? ⟨A, i * 3 + 1, none⟩ = some (.int .i32 (at_ s i).n) ∧ w.cell? ⟨A, i * 3 + 2, none⟩ = some (.bool (at_ s i).t) := by
  rw [at_eq hi]
  exact ⟨h.cell (j := 0) enc_len hi (by decide), h.cell (j := 1) enc_len hi (by decide), h.cell (j := 2) enc_len hi (by decide)⟩
theorem RwAt.drewN {e T : TypeId} {w : World} {g o : Nat} {cs : Array Value} {r : Rw} (h : RwAt e T w g o cs r) (n : Nat) : RwAt e T (w.drewN n) g o cs r := ⟨h.blk, h.c0, h.c1, h.c2, h.arr, h.non⟩
theorem RwAt.drew {e T : TypeId} {w : World} {g o : Nat} {cs : Array Value} {r : Rw} (h : RwAt e T w g o cs r) : RwAt e T w.drew g o cs r := ⟨h.blk, h.c0, h.c1, h.c2, h.arr, h.non⟩
/-- What slots at g may write. -/
def Rw.foot (g : Nat) (r : Rw) : Foot := fun k => k = g ∨ r.adr = some k
theorem RwAt.slot {e T : TypeId} {w : World} {g o : Nat} {cs : Array Value} {r : Rw} (h : RwAt e T w g o cs r) {A : Nat} (hA : r.adr = some A) {i : Nat} (hi : i < r.sl.length) (x : Sl) :
    RwAt e T (w.setCells A (i * 3) (enc x)) g o cs { r with sl := r.sl.set i x } ∧ ∀ F : Foot, F A → Mut F w F (w.setCells A (i * 3) (enc x)) := by
  obtain ⟨h1, h2⟩ := h.arr A hA
  refine ⟨⟨?_, h.c0, ?_, h.c2, ?_, ?_⟩, ?_⟩
  · exact (setCells_far _ _ g (Ne.symm h2)).trans h.blk
  · rw [h.c1]; simp [Rw.val]
  · intro B hB
    obtain rfl : A = B := Option.some.inj (hA.symm.trans hB)
    exact ⟨h1.set enc_len hi x, h2⟩
  · intro hn
    exact absurd (hA.symm.trans hn) (by simp)
  · intro F hF
    obtain ⟨q1, q2, q3, q4⟩ := setCells_same A (enc x) (i * 3) w
    exact ⟨q1, q2, q3, by rw [q4]; exact Nat.le_refl _, fun k _ hk => setCells_far _ _ k (fun e => hk (by rw [e]; exact hF)), fun _ hk => .inl hk⟩
theorem RwAt.many_ {e T : TypeId} {w : World} {g o : Nat} {cs : Array Value} {r : Rw} (h : RwAt e T w g o cs r) (v : Int) :
    RwAt e T (w.setCell ⟨g, o + 2, none⟩ (.int .i64 v)) g o (cs.setIfInBounds (o + 2) (.int .i64 v)) { r with many := v } ∧ ∀ F : Foot, F g → Mut F w F (w.setCell ⟨g, o + 2, none⟩ (.int .i64 v)) := by
  have hl : o + 2 < cs.size := (Array.getElem?_eq_some_iff.1 h.c2).1
  refine ⟨⟨blk_set h.blk _ _, ?_, ?_, ?_, ?_, h.non⟩, fun F hF => (Mut.refl F w).set (p := ⟨g, o + 2, none⟩) hF _⟩
  · rw [Array.getElem?_setIfInBounds_ne (by omega)]; exact h.c0
  · rw [Array.getElem?_setIfInBounds_ne (by omega)]; exact h.c1
  · rw [Array.getElem?_setIfInBounds_self_of_lt hl]
  · intro A hA
    obtain ⟨h1, h2⟩ := h.arr A hA
    exact ⟨h1.far (Below.heap_setCell w _ _ A h2), h2⟩
/-- Slots as they should be: 2^bits of them. -/
structure Fit (r : Rw) : Prop where
  lo : 1 ≤ r.bits
  hi : r.bits ≤ 30
  len : r.sl.length = 2 ^ r.bits
  adr : r.adr ≠ none

theorem and_mask (x : Int) (i : Nat) (hi : i ≤ 62) : Go.bits .and .i64 x (2 ^ i - 1) = x % 2 ^ i := by
  have hpos : 0 < 2 ^ i := Nat.two_pow_pos i
  have hle : (2 : Nat) ^ i ≤ 2 ^ 62 := Nat.pow_le_pow_right (by decide) hi
  have hc : ((2 : Int) ^ i - 1) = ((2 ^ i - 1 : Nat) : Int) := by
    rw [Int.natCast_sub hpos]; simp
  rw [hc]
  have hb : (2 ^ i - 1) % 2 ^ 64 = 2 ^ i - 1 := Nat.mod_eq_of_lt (by omega)
  have hx : (BitVec.ofInt 64 x).toNat = (x % 2 ^ 64).toNat := by rw [BitVec.toNat_ofInt]; norm_cast
  have key : (Go.bits .and .i64 x ((2 ^ i - 1 : Nat) : Int)) = IntKind.i64.wrap (((x % 2 ^ 64).toNat % 2 ^ i : Nat) : Int) := by
    show IntKind.i64.wrap (((BitVec.ofInt 64 x &&& BitVec.ofInt 64 ((2 ^ i - 1 : Nat) : Int)).toNat : Nat) : Int) = _
    rw [BitVec.toNat_and, hx, BitVec.ofInt_natCast, BitVec.toNat_ofNat, hb, Nat.and_two_pow_sub_one_eq_mod]
  rw [key]
  have hp : (0 : Int) ≤ x % 2 ^ 64 := Int.emod_nonneg _ (by decide)
  have he : (((x % 2 ^ 64).toNat % 2 ^ i : Nat) : Int) = x % 2 ^ i := by
    rw [Int.natCast_emod, Int.toNat_of_nonneg hp]
    simp only [Int.natCast_pow, Int.cast_ofNat_Int]
    exact Int.emod_emod_of_dvd x (by
      have : (2 : Int) ^ 64 = 2 ^ i * 2 ^ (64 - i) := by rw [← Int.pow_add, show i + (64 - i) = 64 by omega]
      exact ⟨_, this⟩)
  rw [he]
  have h1 : 0 ≤ x % 2 ^ i := Int.emod_nonneg _ (by have : (0:Int) < 2 ^ i := by exact_mod_cast hpos
                                                   omega)
  have h2 : x % 2 ^ i < 2 ^ i := Int.emod_lt_of_pos _ (by exact_mod_cast hpos)
  have h3 : (2 : Int) ^ i ≤ 4611686018427387904 := by
    have e : ((2 ^ i : Nat) : Int) ≤ ((2 ^ 62 : Nat) : Int) := Int.ofNat_le.2 hle
    rw [Int.natCast_pow] at e
    exact Int.le_trans e (by decide)
  rw [IntKind.wrap_i64]
  omega
theorem and_next {n i j : Nat} (hn : n = 2 ^ j) (hj : j ≤ 40) (hi : i < n) : Go.bits .and .i64 ((i : Int) + 1) ((n : Int) - 1) = ((nxt n i : Nat) : Int) := by
  have h := and_mask ((i : Int) + 1) j (by omega)
  have hc : ((n : Int)) = 2 ^ j := by rw [hn]; simp
  rw [← hc] at h
  rw [h]
  unfold nxt
  split
  · rw [Int.emod_eq_of_lt (by omega) (by omega)]; omega
  · rw [show (i : Int) + 1 = n by omega, Int.emod_self]; rfl
theorem and_dst {n a b j : Nat} (hn : n = 2 ^ j) (hj : j ≤ 40) (ha : a < n) (hb : b < n) : Go.bits .and .i64 ((a : Int) - b) ((n : Int) - 1) = ((dst n a b : Nat) : Int) := by
  have h := and_mask ((a : Int) - b) j (by omega)
  have hc : ((n : Int)) = 2 ^ j := by rw [hn]; simp
  rw [← hc] at h
  rw [h]
  unfold dst
  split
  · rw [Int.emod_eq_of_lt (by omega) (by omega)]; omega
  · have : ((a : Int) - b) % n = ((a : Int) - b + n) % n := by rw [Int.add_emod_right]
    rw [this, Int.emod_eq_of_lt (by omega) (by omega)]; omega
end Tab
end Go.Proofs.YtdjbpdahdakfjaaH
