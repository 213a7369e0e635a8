/- Plain law: bytes as the field of 256. Sums are exclusive or; products commute, associate, distribute; every element that is not 0 has an inverse. No condition. -/
namespace Go.Proofs.Ytmgppnceddnlmaa

/-- Twice an element. -/
def xt (x : Nat) : Nat := if 256 ≤ 2 * x then (2 * x) ^^^ 285 else 2 * x

/-- The rounds of the product: x, the sum so far, what is left of b. -/
def mulL : Nat → Nat → Nat → Nat → Nat
  | 0, _, s, _ => s
  | f + 1, x, s, b => mulL f (xt x) (if b % 2 = 1 then s ^^^ x else s) (b / 2)

def mulN (a b : Nat) : Nat := mulL 8 a 0 b

theorem xor_lt {a b : Nat} (ha : a < 256) (hb : b < 256) : a ^^^ b < 256 := Nat.xor_lt_two_pow (n := 8) ha hb

theorem xt_lt : ∀ x, x < 256 → xt x < 256 := by decide +kernel

theorem xt_xor (x y : Nat) (hx : x < 256) (hy : y < 256) : xt (x ^^^ y) = xt x ^^^ xt y := by
  have h : ∀ x, x < 256 → ∀ y, y < 256 → xt (x ^^^ y) = xt x ^^^ xt y := by decide +kernel
  exact h x hx y hy

theorem mulL_lt : ∀ f x s b, x < 256 → s < 256 → mulL f x s b < 256
  | 0, _, _, _, _, hs => hs
  | f + 1, x, s, b, hx, hs => by
    rw [mulL]
    refine mulL_lt f _ _ _ (xt_lt x hx) ?_
    split
    · exact xor_lt hs hx
    · exact hs

theorem mulN_lt (a b : Nat) (ha : a < 256) : mulN a b < 256 := mulL_lt 8 a 0 b ha (by decide)

/-- No bit of b is left: the sum stands. -/
theorem mulL_zero : ∀ f x s, mulL f x s 0 = s
  | 0, _, _ => rfl
  | f + 1, x, s => by rw [mulL]; simp [mulL_zero f]

theorem mulL_one (f x s b : Nat) (hb : b < 2 ^ f) (h : 0 < b) : mulL f x s b = mulL (f - 1) (xt x) (if b % 2 = 1 then s ^^^ x else s) (b / 2) := by
  cases f with
  | zero => simp at hb; omega
  | succ f => rw [mulL]; rfl

theorem mulL_fuel : ∀ f x s b, b < 2 ^ f → mulL (f + 1) x s b = mulL f x s b
  | 0, x, s, b, h => by
    have : b = 0 := by simpa using h
    subst this; rfl
  | f + 1, x, s, b, h => by
    rw [mulL, mulL_fuel f _ _ (b / 2) (by rw [Nat.pow_succ] at h; omega)]
    rfl

theorem mulL_round (x s c : Nat) (hc : c < 256) : mulL 8 x s c = mulL 8 (xt x) (if c % 2 = 1 then s ^^^ x else s) (c / 2) := by
  rw [mulL_fuel 7 _ _ (c / 2) (by omega)]
  rfl

theorem mulL_lin : ∀ f x x' s s' b, x < 256 → x' < 256 → mulL f (x ^^^ x') (s ^^^ s') b = mulL f x s b ^^^ mulL f x' s' b
  | 0, _, _, _, _, _, _, _ => rfl
  | f + 1, x, x', s, s', b, hx, hx' => by
    rw [mulL, mulL, mulL, xt_xor x x' hx hx']
    by_cases h : b % 2 = 1
    · simp only [h, if_true]
      have e : s ^^^ s' ^^^ (x ^^^ x') = (s ^^^ x) ^^^ (s' ^^^ x') := by ac_rfl
      rw [e]
      exact mulL_lin f _ _ _ _ _ (xt_lt x hx) (xt_lt x' hx')
    · simp only [h, if_false]
      exact mulL_lin f _ _ _ _ _ (xt_lt x hx) (xt_lt x' hx')

theorem xor_div_two (a b : Nat) : (a ^^^ b) / 2 = a / 2 ^^^ b / 2 := by
  have := Nat.shiftRight_xor_distrib (a := a) (b := b) (i := 1)
  simpa [Nat.shiftRight_eq_div_pow] using this

theorem xor_mod_two (a b : Nat) : (a ^^^ b) % 2 = a % 2 ^^^ b % 2 := by
  have := Nat.xor_mod_two_pow (a := a) (b := b) (n := 1)
  simpa using this

theorem mulL_lin2 : ∀ f x s s' b b', mulL f x (s ^^^ s') (b ^^^ b') = mulL f x s b ^^^ mulL f x s' b'
  | 0, _, _, _, _, _ => rfl
  | f + 1, x, s, s', b, b' => by
    rw [mulL, mulL, mulL, xor_div_two, xor_mod_two, ← mulL_lin2 f]
    congr 1
    have h1 : b % 2 = 0 ∨ b % 2 = 1 := by omega
    have h2 : b' % 2 = 0 ∨ b' % 2 = 1 := by omega
    have e2 : s ^^^ s' = (s ^^^ x) ^^^ (s' ^^^ x) := by
      have : (s ^^^ x) ^^^ (s' ^^^ x) = s ^^^ s' ^^^ (x ^^^ x) := by ac_rfl
      rw [this, Nat.xor_self, Nat.xor_zero]
    rcases h1 with h1 | h1 <;> rcases h2 with h2 | h2 <;> simp [h1, h2]
    · ac_rfl
    · ac_rfl
    · exact e2

/-- The product of two bytes. -/
def gm (a b : UInt8) : UInt8 := UInt8.ofNat (mulN a.toNat b.toNat)

theorem u8_lt (a : UInt8) : a.toNat < 256 := a.toNat_lt

theorem gm_toNat (a b : UInt8) : (gm a b).toNat = mulN a.toNat b.toNat := by
  unfold gm
  rw [UInt8.toNat_ofNat']
  exact Nat.mod_eq_of_lt (mulN_lt _ _ (u8_lt a))

theorem gm_add (a b c : UInt8) : gm a (b ^^^ c) = gm a b ^^^ gm a c := by
  apply UInt8.toNat.inj
  rw [gm_toNat, UInt8.toNat_xor, UInt8.toNat_xor, gm_toNat, gm_toNat]
  have := mulL_lin2 8 a.toNat 0 0 b.toNat c.toNat
  simpa [mulN] using this

theorem add_gm (a b c : UInt8) : gm (a ^^^ b) c = gm a c ^^^ gm b c := by
  apply UInt8.toNat.inj
  rw [gm_toNat, UInt8.toNat_xor, UInt8.toNat_xor, gm_toNat, gm_toNat]
  have := mulL_lin 8 a.toNat b.toNat 0 0 c.toNat (u8_lt a) (u8_lt b)
  simpa [mulN] using this

theorem all_u8 (P : UInt8 → Prop) (h : ∀ n, n < 256 → P (UInt8.ofNat n)) : ∀ a, P a := fun a => by
  have := h a.toNat (u8_lt a)
  rwa [UInt8.ofNat_toNat] at this

/-- Whatever holds of 0 and of the eight bits, and of sums, holds of all. -/
theorem bits_ind (P : UInt8 → Prop) (h0 : P 0) (hb : ∀ i, i < 8 → P (UInt8.ofNat (2 ^ i))) (hx : ∀ a b, P a → P b → P (a ^^^ b)) : ∀ a, P a := by
  have key : ∀ k, ∀ n, n < 2 ^ k → k ≤ 8 → P (UInt8.ofNat n) := by
    intro k
    induction k with
    | zero => intro n hn _; have : n = 0 := by simpa using hn
              subst this; exact h0
    | succ k ih =>
      intro n hn hk
      by_cases h : n < 2 ^ k
      · exact ih n h (by omega)
      · have e : n = (n - 2 ^ k) ^^^ 2 ^ k := by
          have hlt : n - 2 ^ k < 2 ^ k := by rw [Nat.pow_succ] at hn; omega
          have : 2 ^ k + (n - 2 ^ k) = 2 ^ k ||| (n - 2 ^ k) := by
            have := Nat.two_pow_add_eq_or_of_lt hlt 1
            simpa using this
          apply Nat.eq_of_testBit_eq
          intro i
          have en : n = 2 ^ k ||| (n - 2 ^ k) := by omega
          rw [Nat.testBit_xor]
          conv => lhs; rw [en]
          rw [Nat.testBit_or]
          by_cases hi : i = k
          · subst hi
            have : (n - 2 ^ i).testBit i = false := Nat.testBit_lt_two_pow hlt
            simp [this]
          · have : (2 ^ k).testBit i = false := by rw [Nat.testBit_two_pow]; simp; omega
            simp [this]
        rw [e, UInt8.ofNat_xor]
        exact hx _ _ (ih _ (by rw [Nat.pow_succ] at hn; omega) (by omega)) (hb k (by omega))
  intro a
  have := key 8 a.toNat (u8_lt a) (by omega)
  rwa [UInt8.ofNat_toNat] at this

theorem xor_self8 (a : UInt8) : a ^^^ a = 0 := UInt8.xor_self
theorem xor_zero8 (a : UInt8) : a ^^^ 0 = a := UInt8.xor_zero
theorem zero_xor8 (a : UInt8) : 0 ^^^ a = a := UInt8.zero_xor

theorem gm_zero (a : UInt8) : gm a 0 = 0 := by
  have := gm_add a 0 0
  rw [xor_self8] at this
  rw [this, xor_self8]
theorem zero_gm (a : UInt8) : gm 0 a = 0 := by
  have := add_gm 0 0 a
  rw [xor_self8] at this
  rw [this, xor_self8]

theorem gm_comm (a b : UInt8) : gm a b = gm b a := by
  revert b
  refine bits_ind (fun a => ∀ b, gm a b = gm b a) (fun b => by rw [gm_zero, zero_gm]) ?_ ?_ a
  · intro i hi
    refine bits_ind _ (by rw [gm_zero, zero_gm]) ?_ ?_
    · intro j hj
      have h : ∀ i, i < 8 → ∀ j, j < 8 → gm (UInt8.ofNat (2 ^ i)) (UInt8.ofNat (2 ^ j)) = gm (UInt8.ofNat (2 ^ j)) (UInt8.ofNat (2 ^ i)) := by decide +kernel
      exact h i hi j hj
    · intro x y h1 h2; rw [gm_add, add_gm, h1, h2]
  · intro x y h1 h2 b; rw [gm_add, add_gm, h1, h2]

theorem gm_assoc (a b c : UInt8) : gm (gm a b) c = gm a (gm b c) := by
  revert b c
  refine bits_ind (fun a => ∀ b c, gm (gm a b) c = gm a (gm b c)) (fun b c => by simp only [zero_gm]) ?_ ?_ a
  · intro i hi
    refine bits_ind (fun b => ∀ c, gm (gm _ b) c = gm _ (gm b c)) (fun c => by simp only [zero_gm, gm_zero]) ?_ ?_
    · intro j hj
      refine bits_ind _ (by simp only [gm_zero]) ?_ ?_
      · intro k hk
        have h : ∀ i, i < 8 → ∀ j, j < 8 → ∀ k, k < 8 → gm (gm (UInt8.ofNat (2 ^ i)) (UInt8.ofNat (2 ^ j))) (UInt8.ofNat (2 ^ k)) = gm (UInt8.ofNat (2 ^ i)) (gm (UInt8.ofNat (2 ^ j)) (UInt8.ofNat (2 ^ k))) := by decide +kernel
        exact h i hi j hj k hk
      · intro x y h1 h2; simp only [gm_add, h1, h2]
    · intro x y h1 h2 c; simp only [gm_add, add_gm, h1, h2]
  · intro x y h1 h2 b c; simp only [add_gm, h1, h2]

theorem one_gm (a : UInt8) : gm 1 a = a := by
  refine all_u8 (fun a => gm 1 a = a) ?_ a
  decide +kernel
theorem gm_one (a : UInt8) : gm a 1 = a := by rw [gm_comm, one_gm]

/-- Powers, as the program has them: n is halved. -/
def powL : Nat → UInt8 → UInt8 → Nat → UInt8
  | 0, out, _, _ => out
  | f + 1, out, a, n => if n = 0 then out else powL f (if n % 2 = 1 then gm out a else out) (gm a a) (n / 2)
def gp (a : UInt8) (n : Nat) : UInt8 := powL 64 1 a n
/-- The inverse (of 0: 0). -/
def gi (a : UInt8) : UInt8 := gp a 254

theorem powL_zero (f : Nat) (o a : UInt8) : powL f o a 0 = o := by cases f <;> rfl
theorem powL_round (f : Nat) (o a : UInt8) (n : Nat) (h : n < 2 ^ f) (h0 : 0 < n) : ∃ g, f = g + 1 ∧ n / 2 < 2 ^ g ∧ powL f o a n = powL g (if n % 2 = 1 then gm o a else o) (gm a a) (n / 2) := by
  cases f with
  | zero => simp at h; omega
  | succ g => exact ⟨g, rfl, by rw [Nat.pow_succ] at h; omega, by rw [powL, if_neg (by omega)]⟩

theorem gm_gi (a : UInt8) (h : a ≠ 0) : gm a (gi a) = 1 := by
  have key : ∀ n, n < 256 → (UInt8.ofNat n ≠ 0 → gm (UInt8.ofNat n) (gi (UInt8.ofNat n)) = 1) := by decide +kernel
  exact all_u8 (fun a => a ≠ 0 → gm a (gi a) = 1) key a h
theorem gi_zero : gi 0 = 0 := by decide +kernel
theorem gi_ne (a : UInt8) (h : a ≠ 0) : gi a ≠ 0 := fun e => by
  have := gm_gi a h
  rw [e, gm_zero] at this
  exact absurd this (by decide)
theorem gi_gm (a : UInt8) (h : a ≠ 0) : gm (gi a) a = 1 := by rw [gm_comm, gm_gi a h]

theorem gm_cancel (a b c : UInt8) (h : a ≠ 0) (e : gm a b = gm a c) : b = c := by
  have := congrArg (gm (gi a)) e
  rwa [← gm_assoc, ← gm_assoc, gi_gm a h, one_gm, one_gm] at this
theorem gm_ne_zero (a b : UInt8) (ha : a ≠ 0) (hb : b ≠ 0) : gm a b ≠ 0 := fun e =>
  hb (gm_cancel a b 0 ha (by rw [e, gm_zero]))
/-- The one by which an element is 1. -/
theorem gi_unique (a b : UInt8) (h : gm a b = 1) : b = gi a := by
  have ha : a ≠ 0 := fun e => by rw [e, zero_gm] at h; exact absurd h (by decide)
  exact gm_cancel a b (gi a) ha (by rw [h, gm_gi a ha])

theorem xor_eq_zero8 (a b : UInt8) : a ^^^ b = 0 ↔ a = b := UInt8.xor_eq_zero_iff

theorem gp_two_ne : ∀ i, i < 12 → ∀ j, j < 12 → i ≠ j → gp 2 i ^^^ gp 2 j ≠ 0 := by decide +kernel
theorem gp_two_ne0 : ∀ i, i < 12 → gp 2 i ≠ 0 := by decide +kernel

end Go.Proofs.Ytmgppnceddnlmaa
