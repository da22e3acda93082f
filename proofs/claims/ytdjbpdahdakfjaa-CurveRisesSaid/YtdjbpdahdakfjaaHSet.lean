/- Sets of small numbers, a bit each, 64 to a word: what the words hold, how many bits of a word are 1, and where such a set lies. -/
import Derived.Test.YtdjbpdahdakfjaaHTable2
import Derived.Laws.BitsLemmas
import Derived.Laws.BitsAllLaws
namespace Go.Proofs.YtdjbpdahdakfjaaH
open Go.RowKit Go.Proofs.YtdjbpdahdakfjaaW.PrintWords
set_option linter.unusedVariables false

namespace Mk
/-- c bits from o on, as a number. -/
def wd (p : Nat → Bool) : Nat → Nat → Nat
  | 0, _ => 0
  | c + 1, o => (p o).toNat + 2 * wd p c (o + 1)
/-- How many of the c from o on are in it. -/
def cnt (p : Nat → Bool) : Nat → Nat → Nat
  | 0, _ => 0
  | c + 1, o => (p o).toNat + cnt p c (o + 1)
theorem wd_lt (p : Nat → Bool) : ∀ c o, wd p c o < 2 ^ c
  | 0, _ => by simp [wd]
  | c + 1, o => by
    have := wd_lt p c (o + 1)
    have hb : (p o).toNat ≤ 1 := Bool.toNat_le _
    unfold wd
    rw [Nat.pow_succ]
    omega
theorem wd_bit (p : Nat → Bool) : ∀ c o j, (wd p c o).testBit j = (decide (j < c) && p (o + j))
  | 0, o, j => by simp [wd]
  | c + 1, o, 0 => by
    unfold wd
    rw [Nat.testBit_zero]
    cases h : p o <;> simp [h] <;> omega
  | c + 1, o, j + 1 => by
    unfold wd
    have hb : (p o).toNat ≤ 1 := Bool.toNat_le _
    rw [Nat.testBit_succ, show ((p o).toNat + 2 * wd p c (o + 1)) / 2 = wd p c (o + 1) by omega, wd_bit p c (o + 1) j, show o + 1 + j = o + (j + 1) by omega]
    simp
theorem cnt_congr {p q : Nat → Bool} : ∀ c o, (∀ j, o ≤ j → j < o + c → p j = q j) → cnt p c o = cnt q c o
  | 0, _, _ => rfl
  | c + 1, o, h => by
    unfold cnt
    rw [h o (Nat.le_refl _) (by omega), cnt_congr c (o + 1) (fun j h1 h2 => h j (by omega) (by omega))]
theorem cnt_none {p : Nat → Bool} : ∀ c o, (∀ j, o ≤ j → j < o + c → p j = false) → cnt p c o = 0
  | 0, _, _ => rfl
  | c + 1, o, h => by
    unfold cnt
    rw [h o (Nat.le_refl _) (by omega), cnt_none c (o + 1) (fun j h1 h2 => h j (by omega) (by omega))]
    rfl
theorem cnt_add (p : Nat → Bool) : ∀ a b o, cnt p (a + b) o = cnt p a o + cnt p b (o + a)
  | 0, b, o => by simp [cnt]
  | a + 1, b, o => by
    have := cnt_add p a b (o + 1)
    rw [show a + 1 + b = (a + b) + 1 by omega]
    show (p o).toNat + cnt p (a + b) (o + 1) = (p o).toNat + cnt p a (o + 1) + cnt p b (o + (a + 1))
    rw [this, show o + 1 + a = o + (a + 1) by omega]
    omega
theorem cnt_le (p : Nat → Bool) : ∀ c o, cnt p c o ≤ c
  | 0, _ => Nat.le_refl _
  | c + 1, o => by
    have := cnt_le p c (o + 1)
    have hb : (p o).toNat ≤ 1 := Bool.toNat_le _
    unfold cnt
    omega
/-! ### digits -/
/-- The sum of the c digits of base B. -/
def ds (B : Nat) : Nat → Nat → Nat
  | 0, _ => 0
  | c + 1, x => x % B + ds B c (x / B)
theorem ds_wd (p : Nat → Bool) : ∀ c o, ds 2 c (wd p c o) = cnt p c o
  | 0, _ => rfl
  | c + 1, o => by
    unfold ds wd cnt
    have hb : (p o).toNat ≤ 1 := Bool.toNat_le _
    rw [show ((p o).toNat + 2 * wd p c (o + 1)) / 2 = wd p c (o + 1) by omega, ds_wd p c (o + 1)]
    omega
/-- Masks: c times k ones below k noughts. -/
def msk (k : Nat) : Nat → Nat
  | 0 => 0
  | c + 1 => (2 ^ k - 1) + 2 ^ (2 * k) * msk k c
theorem and_split (n a b : Nat) : a &&& b = (a % 2 ^ n &&& b % 2 ^ n) + 2 ^ n * (a / 2 ^ n &&& b / 2 ^ n) := by
  rw [← Nat.and_mod_two_pow, ← Nat.and_div_two_pow, Nat.add_comm]
  exact (Nat.div_add_mod _ _).symm
theorem msk_and (k : Nat) (c a : Nat) : a &&& msk k (c + 1) = a % 2 ^ k + 2 ^ (2 * k) * (a / 2 ^ (2 * k) &&& msk k c) := by
  have hp : 0 < 2 ^ k := Nat.two_pow_pos k
  have h2 : (2 : Nat) ^ (2 * k) = 2 ^ k * 2 ^ k := by rw [Nat.two_mul, Nat.pow_add]
  have h1 : 2 ^ k - 1 < 2 ^ (2 * k) := by
    rw [h2]
    have := Nat.mul_le_mul_left (2 ^ k) hp
    omega
  have hm : msk k (c + 1) % 2 ^ (2 * k) = 2 ^ k - 1 := by
    unfold msk
    rw [Nat.add_mul_mod_self_left, Nat.mod_eq_of_lt h1]
  have hd : msk k (c + 1) / 2 ^ (2 * k) = msk k c := by
    show (2 ^ k - 1 + 2 ^ (2 * k) * msk k c) / 2 ^ (2 * k) = _
    rw [Nat.add_mul_div_left _ _ (Nat.two_pow_pos _), Nat.div_eq_of_lt h1, Nat.zero_add]
  rw [and_split (2 * k) a, hm, hd, Nat.and_two_pow_sub_one_eq_mod, h2, Nat.mod_mul_right_mod]
/-- Neighbours are added: first step. -/
theorem fold (k : Nat) : ∀ c x, ds (2 ^ (2 * k)) c ((x / 2 ^ k &&& msk k c) + (x &&& msk k c)) = ds (2 ^ k) (2 * c) x
  | 0, x => by simp [ds, msk]
  | c + 1, x => by
    have hp : 0 < 2 ^ k := Nat.two_pow_pos k
    have h2 : (2 : Nat) ^ (2 * k) = 2 ^ k * 2 ^ k := by rw [Nat.two_mul, Nat.pow_add]
    have hB : 0 < (2 : Nat) ^ (2 * k) := Nat.two_pow_pos _
    have ih := fold k c (x / 2 ^ (2 * k))
    have hc : x / 2 ^ k / 2 ^ (2 * k) = x / 2 ^ (2 * k) / 2 ^ k := by rw [Nat.div_div_eq_div_mul, Nat.div_div_eq_div_mul, Nat.mul_comm]
    have e : (x / 2 ^ k &&& msk k (c + 1)) + (x &&& msk k (c + 1)) = (x / 2 ^ k % 2 ^ k + x % 2 ^ k) + 2 ^ (2 * k) * ((x / 2 ^ (2 * k) / 2 ^ k &&& msk k c) + (x / 2 ^ (2 * k) &&& msk k c)) := by
      rw [msk_and, msk_and, hc, Nat.mul_add]
      omega
    by_cases hk : k = 0
    · subst hk
      rw [e]
      simp only [Nat.pow_zero, Nat.mul_zero, Nat.mod_one, Nat.div_one, Nat.zero_add, Nat.one_mul] at ih ⊢
      rw [show 2 * (c + 1) = 2 * c + 1 + 1 by omega]
      simp only [ds, Nat.mod_one, Nat.div_one, Nat.zero_add]
      exact ih
    have h1 : x / 2 ^ k % 2 ^ k < 2 ^ k := Nat.mod_lt _ hp
    have h3 : x % 2 ^ k < 2 ^ k := Nat.mod_lt _ hp
    have h4 : 2 ^ k * 2 ≤ 2 ^ k * 2 ^ k := Nat.mul_le_mul_left _ (by
      have : 2 ^ 1 ≤ 2 ^ k := Nat.pow_le_pow_right (by decide) (by omega)
      simpa using this)
    rw [e, show 2 * (c + 1) = 2 * c + 1 + 1 by omega]
    simp only [ds]
    have hs : x / 2 ^ k % 2 ^ k + x % 2 ^ k < 2 ^ (2 * k) := by rw [h2]; omega
    rw [Nat.add_mul_mod_self_left, Nat.add_mul_div_left _ _ hB, Nat.mod_eq_of_lt hs, Nat.div_eq_of_lt hs, Nat.zero_add, ih, Nat.div_div_eq_div_mul, ← h2]
    omega
/-- Every digit is at most m. -/
def le (B m : Nat) : Nat → Nat → Prop
  | 0, x => x = 0
  | c + 1, x => x % B ≤ m ∧ le B m c (x / B)
theorem fold_le (k : Nat) (m : Nat) : ∀ c x, le (2 ^ k) m (2 * c) x → 2 * m < 2 ^ (2 * k) → le (2 ^ (2 * k)) (2 * m) c ((x / 2 ^ k &&& msk k c) + (x &&& msk k c))
  | 0, x, h, _ => by simp [le, msk]
  | c + 1, x, h, hm => by
    have h2 : (2 : Nat) ^ (2 * k) = 2 ^ k * 2 ^ k := by rw [Nat.two_mul, Nat.pow_add]
    have hB : 0 < (2 : Nat) ^ (2 * k) := Nat.two_pow_pos _
    rw [show 2 * (c + 1) = 2 * c + 1 + 1 by omega] at h
    simp only [le] at h
    obtain ⟨a1, a2, a3⟩ := h
    rw [Nat.div_div_eq_div_mul, ← h2] at a3
    have ih := fold_le k m c _ a3 hm
    have hc : x / 2 ^ k / 2 ^ (2 * k) = x / 2 ^ (2 * k) / 2 ^ k := by rw [Nat.div_div_eq_div_mul, Nat.div_div_eq_div_mul, Nat.mul_comm]
    have e : (x / 2 ^ k &&& msk k (c + 1)) + (x &&& msk k (c + 1)) = (x / 2 ^ k % 2 ^ k + x % 2 ^ k) + 2 ^ (2 * k) * ((x / 2 ^ (2 * k) / 2 ^ k &&& msk k c) + (x / 2 ^ (2 * k) &&& msk k c)) := by
      rw [msk_and, msk_and, hc, Nat.mul_add]
      omega
    rw [e]
    simp only [le]
    have hs : x / 2 ^ k % 2 ^ k + x % 2 ^ k < 2 ^ (2 * k) := by omega
    rw [Nat.add_mul_mod_self_left, Nat.add_mul_div_left _ _ hB, Nat.mod_eq_of_lt hs, Nat.div_eq_of_lt hs, Nat.zero_add]
    exact ⟨by omega, ih⟩
theorem le_lt {B m : Nat} (hB : 0 < B) : ∀ c x, le B m c x → x < B ^ c
  | 0, x, h => by simp only [le] at h; simp [h]
  | c + 1, x, h => by
    have := le_lt hB c _ h.2
    rw [Nat.pow_succ]
    exact (Nat.div_lt_iff_lt_mul hB).1 this
theorem le_base {B : Nat} (hB : 0 < B) : ∀ c x, x < B ^ c → le B (B - 1) c x
  | 0, x, h => by simp only [le]; simpa using h
  | c + 1, x, h => by
    have := Nat.mod_lt x hB
    exact ⟨by omega, le_base hB c _ (by rw [Nat.pow_succ] at h; exact (Nat.div_lt_iff_lt_mul hB).2 h)⟩
/-- Neighbours of four bits each, at most four, are added at once. -/
theorem fold4 : ∀ c x, le 16 4 (2 * c) x → ((x / 16 + x) &&& msk 4 c) = (x / 16 &&& msk 4 c) + (x &&& msk 4 c)
  | 0, x, h => by simp [msk]
  | c + 1, x, h => by
    rw [show 2 * (c + 1) = 2 * c + 1 + 1 by omega] at h
    simp only [le] at h
    obtain ⟨a1, a2, a3⟩ := h
    rw [Nat.div_div_eq_div_mul] at a3
    have ih := fold4 c (x / (16 * 16)) a3
    have a4 : x / 256 % 16 ≤ 4 := by
      cases c with
      | zero => simp only [le] at a3; omega
      | succ c =>
        rw [show 2 * (c + 1) = 2 * c + 1 + 1 by omega] at a3
        simp only [le] at a3
        exact a3.1
    have hd : x / 16 / 16 = x / 256 := Nat.div_div_eq_div_mul _ _ _
    have e1 : (x / 16 + x) / 256 = x / 256 / 16 + x / 256 := by omega
    have e2 : (x / 16 + x) % 16 = x / 16 % 16 + x % 16 := by omega
    have e3 : x / 16 / 256 = x / 256 / 16 := by omega
    rw [msk_and, msk_and, msk_and]
    show (x / 16 + x) % 16 + 256 * ((x / 16 + x) / 256 &&& msk 4 c) = x / 16 % 16 + 256 * (x / 16 / 256 &&& msk 4 c) + (x % 16 + 256 * (x / 256 &&& msk 4 c))
    rw [e1, e2, e3, show x / 256 = x / (16 * 16) from rfl, ih]
    omega
theorem sum8a (a X : Nat) (h : a ≤ 8) : (a + 256 * X) / 256 = X := by omega
theorem sum8b (a b Z : Nat) (ha : a ≤ 16) (hb : b ≤ 16) : (a + 256 * b + 65536 * Z) / 65536 = Z := by omega
theorem sum8c (a b c d Z : Nat) (ha : a ≤ 32) (hb : b ≤ 32) (hc : c ≤ 32) (hd : d ≤ 32) : (a + 256 * b + 65536 * c + 16777216 * d + 4294967296 * Z) / 4294967296 = Z := by omega
theorem sum8d (a X : Nat) (h : a ≤ 64) : (a + 256 * X) % 128 = a := by omega
theorem sum8e (d0 d1 d2 d3 d4 d5 d6 d7 : Nat) (h0 : d0 ≤ 8) (h1 : d1 ≤ 8) (h2 : d2 ≤ 8) (h3 : d3 ≤ 8) (h4 : d4 ≤ 8) (h5 : d5 ≤ 8) (h6 : d6 ≤ 8) (h7 : d7 ≤ 8) (y x1 : Nat)
    (e1 : x1 = d1 + 256 * d2 + 65536 * d3 + 16777216 * d4 + 4294967296 * d5 + 1099511627776 * d6 + 281474976710656 * d7) (e0 : y = d0 + 256 * x1) :
    ((y + y / 256) + (y + y / 256) / 65536 + ((y + y / 256) + (y + y / 256) / 65536) / 4294967296) % 128 = d0 + (d1 + (d2 + (d3 + (d4 + (d5 + (d6 + d7)))))) := by
  have k0 : y / 256 = x1 := by rw [e0]; exact sum8a d0 x1 h0
  have k1 : y + x1 = (d0 + d1) + 256 * (d1 + d2) + 65536 * ((d2 + d3) + 256 * (d3 + d4) + 65536 * (d4 + d5) + 16777216 * (d5 + d6) + 4294967296 * (d6 + d7) + 1099511627776 * d7) := by
    rw [e0, e1]
    clear h0 h1 h2 h3 h4 h5 h6 h7 e1 e0 k0
    omega
  have k2 : (y + x1) / 65536 = (d2 + d3) + 256 * (d3 + d4) + 65536 * (d4 + d5) + 16777216 * (d5 + d6) + 4294967296 * (d6 + d7) + 1099511627776 * d7 := by
    rw [k1]
    exact sum8b (d0 + d1) (d1 + d2) _ (Nat.add_le_add h0 h1) (Nat.add_le_add h1 h2)
  have k3 : (y + x1) + (y + x1) / 65536 = (d0 + d1 + d2 + d3) + 256 * (d1 + d2 + d3 + d4) + 65536 * (d2 + d3 + d4 + d5) + 16777216 * (d3 + d4 + d5 + d6) + 4294967296 * ((d4 + d5 + d6 + d7) + 256 * (d5 + d6 + d7) + 65536 * (d6 + d7) + 16777216 * d7) := by
    rw [k2, k1]
    clear h0 h1 h2 h3 h4 h5 h6 h7 e1 e0 k0 k1 k2
    omega
  have k4 : ((y + x1) + (y + x1) / 65536) / 4294967296 = (d4 + d5 + d6 + d7) + 256 * (d5 + d6 + d7) + 65536 * (d6 + d7) + 16777216 * d7 := by
    rw [k3]
    exact sum8c _ _ _ _ _ (Nat.add_le_add (Nat.add_le_add (Nat.add_le_add h0 h1) h2) h3) (Nat.add_le_add (Nat.add_le_add (Nat.add_le_add h1 h2) h3) h4) (Nat.add_le_add (Nat.add_le_add (Nat.add_le_add h2 h3) h4) h5) (Nat.add_le_add (Nat.add_le_add (Nat.add_le_add h3 h4) h5) h6)
  rw [k0, k4, k3]
  have k5 : (d0 + d1 + d2 + d3) + 256 * (d1 + d2 + d3 + d4) + 65536 * (d2 + d3 + d4 + d5) + 16777216 * (d3 + d4 + d5 + d6) + 4294967296 * ((d4 + d5 + d6 + d7) + 256 * (d5 + d6 + d7) + 65536 * (d6 + d7) + 16777216 * d7) + ((d4 + d5 + d6 + d7) + 256 * (d5 + d6 + d7) + 65536 * (d6 + d7) + 16777216 * d7) =
      (d0 + (d1 + (d2 + (d3 + (d4 + (d5 + (d6 + d7))))))) + 256 * ((d1 + d2 + d3 + d4) + 256 * (d2 + d3 + d4 + d5) + 65536 * (d3 + d4 + d5 + d6) + 16777216 * ((d4 + d5 + d6 + d7) + 256 * (d5 + d6 + d7) + 65536 * (d6 + d7) + 16777216 * d7) + ((d5 + d6 + d7) + 256 * (d6 + d7) + 65536 * d7)) := by
    clear h0 h1 h2 h3 h4 h5 h6 h7 e1 e0 k0 k1 k2 k3 k4
    omega
  rw [k5]
  exact sum8d _ _ (by clear e1 e0 k0 k1 k2 k3 k4 k5; omega)
theorem un256 (a : Nat) : a = a % 256 + 256 * (a / 256) := (Nat.mod_add_div a 256).symm
theorem sum8 (y : Nat) (h : le 256 8 8 y) : ((y + y / 256) + (y + y / 256) / 65536 + ((y + y / 256) + (y + y / 256) / 65536) / 4294967296) % 128 = ds 256 8 y := by
  simp only [le] at h
  obtain ⟨h0, h1, h2, h3, h4, h5, h6, h7, h8⟩ := h
  simp only [ds]
  have q0 := un256 y
  have q1 := un256 (y / 256)
  have q2 := un256 (y / 256 / 256)
  have q3 := un256 (y / 256 / 256 / 256)
  have q4 := un256 (y / 256 / 256 / 256 / 256)
  have q5 := un256 (y / 256 / 256 / 256 / 256 / 256)
  have q6 := un256 (y / 256 / 256 / 256 / 256 / 256 / 256)
  have q7 := un256 (y / 256 / 256 / 256 / 256 / 256 / 256 / 256)
  rw [h8] at q7
  refine sum8e _ _ _ _ _ _ _ _ h0 h1 h2 h3 h4 h5 h6 h7 y (y / 256) ?_ q0
  generalize y / 256 % 256 = d1 at *
  generalize y / 256 / 256 % 256 = d2 at *
  generalize y / 256 / 256 / 256 % 256 = d3 at *
  generalize y / 256 / 256 / 256 / 256 % 256 = d4 at *
  generalize y / 256 / 256 / 256 / 256 / 256 % 256 = d5 at *
  generalize y / 256 / 256 / 256 / 256 / 256 / 256 % 256 = d6 at *
  generalize y / 256 / 256 / 256 / 256 / 256 / 256 / 256 % 256 = d7 at *
  generalize y / 256 / 256 / 256 / 256 / 256 / 256 / 256 = x7 at *
  generalize y / 256 / 256 / 256 / 256 / 256 / 256 = x6 at *
  generalize y / 256 / 256 / 256 / 256 / 256 = x5 at *
  generalize y / 256 / 256 / 256 / 256 = x4 at *
  generalize y / 256 / 256 / 256 = x3 at *
  generalize y / 256 / 256 = x2 at *
  generalize y / 256 = x1 at *
  rw [q1, q2, q3, q4, q5, q6, q7]
  clear h0 h1 h2 h3 h4 h5 h6 h7 h8 q0 q1 q2 q3 q4 q5 q6 q7
  omega
/-! ### words -/
def words (p : Nat → Bool) (m : Nat) : List Nat := (List.range m).map fun k => wd p 64 (64 * k)
theorem words_len (p : Nat → Bool) (m : Nat) : (words p m).length = m := by simp [words]
theorem words_at (p : Nat → Bool) (m k : Nat) (h : k < (words p m).length) : (words p m)[k] = wd p 64 (64 * k) := by simp [words]
theorem wd_congr {p q : Nat → Bool} : ∀ c o, (∀ j, o ≤ j → j < o + c → p j = q j) → wd p c o = wd q c o
  | 0, _, _ => rfl
  | c + 1, o, h => by
    unfold wd
    rw [h o (Nat.le_refl _) (by omega), wd_congr c (o + 1) (fun j h1 h2 => h j (by omega) (by omega))]
/-- One bit more, or one less. -/
def upd (p : Nat → Bool) (i : Nat) (b : Bool) : Nat → Bool := fun j => if j = i then b else p j
theorem words_upd (p : Nat → Bool) (m i : Nat) (b : Bool) (v : Nat) (hv : v = wd (upd p i b) 64 (64 * (i / 64))) : words (upd p i b) m = (words p m).set (i / 64) v := by
  apply List.ext_getElem
  · simp [words_len]
  · intro k h1 h2
    rw [words_at, List.getElem_set]
    split
    · rename_i e
      rw [hv, e]
    · rename_i e
      rw [words_at]
      refine wd_congr _ _ (fun j h3 h4 => ?_)
      unfold upd
      rw [if_neg]
      intro hj
      omega
theorem wd_or (p : Nat → Bool) (i : Nat) : wd p 64 (64 * (i / 64)) ||| 2 ^ (i % 64) = wd (upd p i true) 64 (64 * (i / 64)) := by
  apply Nat.eq_of_testBit_eq
  intro j
  rw [Nat.testBit_or, wd_bit, wd_bit, Nat.testBit_two_pow]
  unfold upd
  by_cases h : i % 64 = j
  · have : 64 * (i / 64) + j = i := by omega
    rw [if_pos this]
    have hj : j < 64 := by omega
    simp [h, hj]
  · have : ¬ (64 * (i / 64) + j = i) := by omega
    rw [if_neg this]
    simp [h]
theorem wd_andNot (p : Nat → Bool) (i : Nat) : wd p 64 (64 * (i / 64)) &&& (18446744073709551615 - 2 ^ (i % 64)) = wd (upd p i false) 64 (64 * (i / 64)) := by
  apply Nat.eq_of_testBit_eq
  intro j
  have hlt : 2 ^ (i % 64) < 2 ^ 64 := Nat.pow_lt_pow_right (by decide) (Nat.mod_lt _ (by decide))
  rw [Nat.testBit_and, wd_bit, wd_bit, show 18446744073709551615 - 2 ^ (i % 64) = 2 ^ 64 - (2 ^ (i % 64) + 1) by omega, Nat.testBit_two_pow_sub_succ hlt, Nat.testBit_two_pow]
  unfold upd
  by_cases h : i % 64 = j
  · have : 64 * (i / 64) + j = i := by omega
    rw [if_pos this]
    simp [h]
  · have : ¬ (64 * (i / 64) + j = i) := by omega
    rw [if_neg this]
    simp [h]
    omega
theorem wd_low (p : Nat → Bool) (r o : Nat) (hr : r ≤ 64) : wd p 64 o &&& (2 ^ r - 1) = wd p r o := by
  apply Nat.eq_of_testBit_eq
  intro j
  rw [Nat.testBit_and, wd_bit, wd_bit, Nat.testBit_two_pow_sub_one]
  by_cases h : j < r
  · have : j < 64 := by omega
    simp [h, this]
  · simp [h]
theorem wd_has (p : Nat → Bool) (i : Nat) : wd p 64 (64 * (i / 64)) / 2 ^ (i % 64) % 2 = (p i).toNat := by
  have h := wd_bit p 64 (64 * (i / 64)) (i % 64)
  rw [show 64 * (i / 64) + i % 64 = i by omega, Nat.testBit_eq_decide_div_mod_eq] at h
  have h2 := Nat.mod_lt (wd p 64 (64 * (i / 64)) / 2 ^ (i % 64)) (show 0 < 2 by decide)
  have h3 : i % 64 < 64 := Nat.mod_lt _ (by decide)
  rw [decide_eq_true h3, Bool.true_and] at h
  cases hp : p i
  · rw [hp] at h
    have := of_decide_eq_false h
    simp
    omega
  · rw [hp] at h
    have := of_decide_eq_true h
    simp
    omega
/-- The ones of a word. -/
def pop (x : Nat) : Nat := ds 2 64 x
theorem pop_wd (p : Nat → Bool) (o : Nat) : pop (wd p 64 o) = cnt p 64 o := ds_wd p 64 o
theorem wd_more (p : Nat → Bool) : ∀ c o d, (∀ j, o + c ≤ j → p j = false) → wd p (c + d) o = wd p c o
  | 0, o, d, h => by
    rw [Nat.zero_add]
    show wd p d o = 0
    apply Nat.eq_of_testBit_eq
    intro j
    rw [wd_bit, h (o + j) (by omega)]
    simp
  | c + 1, o, d, h => by
    rw [show c + 1 + d = (c + d) + 1 by omega]
    show (p o).toNat + 2 * wd p (c + d) (o + 1) = (p o).toNat + 2 * wd p c (o + 1)
    rw [wd_more p c (o + 1) d (fun j hj => h j (by omega))]
theorem pop_low (p : Nat → Bool) (r o : Nat) (hr : r ≤ 64) : pop (wd p r o) = cnt p r o := by
  have e1 : wd p r o = wd (fun j => decide (j < o + r) && p j) 64 o := by
    have h1 := wd_more (fun j => decide (j < o + r) && p j) r o (64 - r) (fun j hj => by simp; omega)
    rw [show r + (64 - r) = 64 by omega] at h1
    rw [h1]
    refine wd_congr _ _ (fun j h2 h3 => ?_)
    simp [h3]
  rw [e1, pop_wd]
  rw [show 64 = r + (64 - r) by omega, cnt_add, cnt_none (64 - r) (o + r) (fun j h2 h3 => by simp; omega), Nat.add_zero]
  refine cnt_congr _ _ (fun j h2 h3 => ?_)
  simp [h3]
/-- What the code reckons of a word. -/
theorem pop_code (x : Nat) (hx : x < 18446744073709551616) : ∃ y1 y2 y3 : Nat, y1 = (x / 2 &&& 6148914691236517205) + (x &&& 6148914691236517205) ∧ y1 < 18446744073709551616 ∧
    y2 = (y1 / 4 &&& 3689348814741910323) + (y1 &&& 3689348814741910323) ∧ y2 ≤ 7378697629483820646 ∧ y3 = ((y2 / 16 + y2) &&& 1085102592571150095) ∧ y3 ≤ 1085102592571150095 ∧
    ((y3 + y3 / 256) + (y3 + y3 / 256) / 65536 + ((y3 + y3 / 256) + (y3 + y3 / 256) / 65536) / 4294967296) % 128 = pop x := by
  have m1 : msk 1 32 = 6148914691236517205 := by decide +kernel
  have m2 : msk 2 16 = 3689348814741910323 := by decide +kernel
  have m4 : msk 4 8 = 1085102592571150095 := by decide +kernel
  have l1 : le (2 ^ 1) 1 (2 * 32) x := le_base (B := 2) (by decide) 64 x hx
  have l2 := fold_le 1 1 32 x l1 (by decide)
  have s2 := fold 1 32 x
  rw [m1] at l2 s2
  obtain ⟨y1, e1⟩ : ∃ y, y = (x / 2 ^ 1 &&& 6148914691236517205) + (x &&& 6148914691236517205) := ⟨_, rfl⟩
  rw [← e1] at l2 s2
  have l3 := fold_le 2 2 16 y1 l2 (by decide)
  have s3 := fold 2 16 y1
  rw [m2] at l3 s3
  obtain ⟨y2, e2⟩ : ∃ y, y = (y1 / 2 ^ 2 &&& 3689348814741910323) + (y1 &&& 3689348814741910323) := ⟨_, rfl⟩
  rw [← e2] at l3 s3
  have l4 := fold_le 4 4 8 y2 l3 (by decide)
  have s4 := fold 4 8 y2
  have j4 := fold4 8 y2 l3
  rw [m4] at l4 s4 j4
  have hx2 : x / 2 ^ 1 = x / 2 := rfl
  have hx4 : y1 / 2 ^ 2 = y1 / 4 := rfl
  have hx16 : y2 / 2 ^ 4 = y2 / 16 := rfl
  rw [hx2] at e1
  rw [hx4] at e2
  rw [hx16, ← j4] at l4 s4
  obtain ⟨y3, e3⟩ : ∃ y, y = (y2 / 16 + y2) &&& 1085102592571150095 := ⟨_, rfl⟩
  rw [← e3] at l4 s4
  have b1 : x / 2 &&& 6148914691236517205 ≤ 6148914691236517205 := Nat.and_le_right
  have b2 : x &&& 6148914691236517205 ≤ 6148914691236517205 := Nat.and_le_right
  have b3 : y1 / 4 &&& 3689348814741910323 ≤ 3689348814741910323 := Nat.and_le_right
  have b4 : y1 &&& 3689348814741910323 ≤ 3689348814741910323 := Nat.and_le_right
  have b5 : (y2 / 16 + y2) &&& 1085102592571150095 ≤ 1085102592571150095 := Nat.and_le_right
  have e256 : (2 : Nat) ^ (2 * 4) = 256 := by decide
  rw [e256] at l4 s4
  exact ⟨y1, y2, y3, e1, by omega, e2, by omega, e3, by omega, (sum8 y3 l4).trans (s4.trans (s3.trans s2))⟩
theorem and63 (i : Nat) (h : i < 9223372036854775808) : Go.bits .and .i64 (i : Int) 63 = ((i % 64 : Nat) : Int) := by
  have := bits_mask .i64 63 (by decide) (fun n h0 h1 => by rw [IntKind.wrap_i64]; omega) 6 (by decide) (i : Int) (by omega) (by simpa using (by omega : (i : Int) < 9223372036854775808))
  simpa using this
theorem shl1 (r : Nat) (hr : r < 64) : IntKind.u64.wrap (2 ^ r) = ((2 ^ r : Nat) : Int) := by
  have h : (2 : Nat) ^ r < 2 ^ 64 := Nat.pow_lt_pow_right (by decide) hr
  have hc : (2 : Int) ^ r = ((2 ^ r : Nat) : Int) := by simp
  rw [hc, IntKind.wrap_u64]
  generalize 2 ^ r = q at h ⊢
  omega
/-! ### where a set lies -/
def encW (x : Nat) : List Value := [.int .u64 (x : Int)]
theorem encW_len (x : Nat) : (encW x).length = 1 := rfl
/-- A set of numbers below n at g, its words at A. -/
structure SetAt (e T : TypeId) (w : World) (g A n : Nat) (p : Nat → Bool) : Prop where
  blk : w.heap[g]? = some (.cells #[.int .i64 (n : Int), .slice (some ⟨A, 0, none⟩) ((n + 63) / 64) ((n + 63) / 64)] T (0, 0))
  arr : Arr encW w A e (words p ((n + 63) / 64))
  ne : A ≠ g
  out : ∀ j, n ≤ j → p j = false
/-- What a set may write. -/
def foot (g A : Nat) : Foot := fun k => k = g ∨ k = A
section
variable {e T : TypeId} {w w' : World} {g A n : Nat} {p : Nat → Bool}
theorem SetAt.drewN (h : SetAt e T w g A n p) (k : Nat) : SetAt e T (w.drewN k) g A n p := ⟨h.blk, h.arr, h.ne, h.out⟩
theorem SetAt.c0 (h : SetAt e T w g A n p) : w.cell? ⟨g, 0, none⟩ = some (.int .i64 (n : Int)) := blk_cell h.blk 0
theorem SetAt.c1 (h : SetAt e T w g A n p) : w.cell? ⟨g, 1, none⟩ = some (.slice (some ⟨A, 0, none⟩) ((n + 63) / 64) ((n + 63) / 64)) := blk_cell h.blk 1
theorem SetAt.word (h : SetAt e T w g A n p) {k : Nat} (hk : k < (n + 63) / 64) : w.cell? ⟨A, k, none⟩ = some (.int .u64 (wd p 64 (64 * k) : Int)) := by
  have hk' : k < (words p ((n + 63) / 64)).length := by rw [words_len]; exact hk
  have := h.arr.cell (j := 0) encW_len hk' (by decide)
  rw [words_at] at this
  simpa [encW] using this
theorem SetAt.frozen (h : SetAt e T w g A n p) (k : Nat) : w.frozen? ⟨A, k, none⟩ = false := h.arr.frozen k
theorem SetAt.far (h : SetAt e T w g A n p) (h1 : w'.heap[g]? = w.heap[g]?) (h2 : w'.heap[A]? = w.heap[A]?) : SetAt e T w' g A n p := ⟨h1.trans h.blk, h.arr.far h2, h.ne, h.out⟩
theorem SetAt.upd (h : SetAt e T w g A n p) {i : Nat} (hi : i < n) (b : Bool) {v : Int} (hv : v = (wd (Mk.upd p i b) 64 (64 * (i / 64)) : Nat)) :
    SetAt e T (w.setCell ⟨A, i / 64, none⟩ (.int .u64 v)) g A n (Mk.upd p i b) := by
  subst hv
  have hl : i / 64 < (words p ((n + 63) / 64)).length := by rw [words_len]; omega
  have h2 := h.arr.set1 (j := 0) (x := wd (Mk.upd p i b) 64 (64 * (i / 64))) (v := .int .u64 (wd (Mk.upd p i b) 64 (64 * (i / 64)) : Nat)) encW_len hl (by decide) rfl
  refine ⟨(Below.heap_setCell w _ _ g (Ne.symm h.ne)).trans h.blk, ?_, h.ne, fun j hj => ?_⟩
  · rw [words_upd p _ i b _ rfl]
    simpa using h2
  · unfold Mk.upd
    rw [if_neg (by omega)]
    exact h.out j hj
end
end Mk
end Go.Proofs.YtdjbpdahdakfjaaH
