/- The cells of a trail, in plain numbers. -/
import Derived.WalkKit
import Derived.Laws.BitsAllLaws
namespace Go.Proofs.Ytnaeehnnjhklbaa
open Go.RowKit

/-- A hash as an unsigned word. -/
def U (h : Int) : Nat := (h % 18446744073709551616).toNat
def trP (h : Int) (i : Nat) : Nat := U h / 32 ^ i
def trC (h : Int) (L : Nat) : Nat → Nat
  | 0 => U h % 2 ^ L
  | i + 1 => (5 * trC h L i + trP h (i + 1) + 1) % 2 ^ L

theorem U_lt (h : Int) : U h < 18446744073709551616 := by unfold U; omega
theorem U_cast (h : Int) : (U h : Int) = h % 18446744073709551616 := by unfold U; omega
theorem wrap_U (h : Int) : IntKind.u64.wrap h = (U h : Int) := by rw [IntKind.wrap_u64, U_cast]
theorem trC_lt (h : Int) (L i : Nat) : trC h L i < 2 ^ L := by cases i <;> exact Nat.mod_lt _ (Nat.two_pow_pos L)
theorem trP_zero (h : Int) : trP h 0 = U h := by simp [trP]
theorem trP_succ (h : Int) (i : Nat) : trP h (i + 1) = trP h i / 32 := by unfold trP; rw [Nat.pow_succ, Nat.div_div_eq_div_mul]
theorem trP_le (h : Int) (i : Nat) : trP h i ≤ U h := Nat.div_le_self _ _
theorem trP_lt (h : Int) (i : Nat) : trP h i < 18446744073709551616 := Nat.lt_of_le_of_lt (trP_le h i) (U_lt h)
theorem trP_succ_lt (h : Int) (i : Nat) : trP h (i + 1) < 576460752303423488 := by rw [trP_succ]; have := trP_lt h i; omega
theorem pow_le20 {L : Nat} (hL : L ≤ 20) : 2 ^ L ≤ 1048576 := Nat.pow_le_pow_right (by omega) hL
theorem trC_lt20 (h : Int) {L : Nat} (hL : L ≤ 20) (i : Nat) : trC h L i < 1048576 := Nat.lt_of_lt_of_le (trC_lt h L i) (pow_le20 hL)
theorem pow_cast (L : Nat) : (2 : Int) ^ L = ((2 ^ L : Nat) : Int) := by simp

theorem wrap_pow {L : Nat} (hL : L ≤ 20) : IntKind.u64.wrap (2 ^ L) = ((2 ^ L : Nat) : Int) := by
  have h := pow_le20 hL
  rw [IntKind.wrap_u64, pow_cast]
  generalize 2 ^ L = n at *
  omega
theorem wrap_mask {L : Nat} (hL : L ≤ 20) : IntKind.u64.wrap (IntKind.u64.wrap (2 ^ L) - 1) = ((2 ^ L - 1 : Nat) : Int) := by
  have h := pow_le20 hL
  have h' := Nat.two_pow_pos L
  rw [wrap_pow hL, IntKind.wrap_u64]
  generalize 2 ^ L = n at *
  omega
theorem and_mask {L : Nat} (hL : L ≤ 20) {x : Nat} (hx : x < 18446744073709551616) : bits .and .u64 (x : Int) ((2 ^ L - 1 : Nat) : Int) = ((x % 2 ^ L : Nat) : Int) := by
  have h := pow_le20 hL
  rw [u64_and_nat _ _ hx (by omega), Nat.and_two_pow_sub_one_eq_mod]

/-- The first cell, as First reckons it. -/
theorem first_eq (h : Int) {L : Nat} (hL : L ≤ 20) : wrap64 (bits .and .u64 (IntKind.u64.wrap h) (IntKind.u64.wrap (IntKind.u64.wrap (2 ^ L) - 1))) = (trC h L 0 : Int) := by
  have h1 := trC_lt20 h hL 0
  have h2 : trC h L 0 = U h % 2 ^ L := rfl
  rw [wrap_mask hL, wrap_U, and_mask hL (U_lt h), ← h2]
  unfold wrap64
  omega
theorem firstr_eq (h : Int) {L : Nat} (hL : L ≤ 20) : wrap64 ((IntKind.u64.wrap h).tmod (IntKind.u64.wrap (2 ^ L))) = (trC h L 0 : Int) := by
  have h1 := trC_lt20 h hL 0
  have h2 : trC h L 0 = U h % 2 ^ L := rfl
  rw [wrap_U, wrap_pow hL, Int.tmod_eq_emod_of_nonneg (by omega), ← Int.natCast_emod, ← h2]
  unfold wrap64
  omega

/-- How many shifts leave nothing. -/
def trS (h : Int) : Nat := if U h = 0 then 0 else Nat.log2 (U h) / 5 + 1
theorem trS_le (h : Int) : trS h ≤ 13 := by
  unfold trS
  split
  · omega
  · rename_i h0
    have := (Nat.log2_lt h0 (k := 64)).2 (by have := U_lt h; simpa using this)
    omega
theorem trP_zero_iff (h : Int) (i : Nat) : trP h i = 0 ↔ trS h ≤ i := by
  unfold trP trS
  rw [Nat.div_eq_zero_iff, show (32 : Nat) = 2 ^ 5 by rfl, ← Nat.pow_mul]
  have hp : ¬ (2 ^ (5 * i) = 0) := by have := Nat.two_pow_pos (5 * i); omega
  split
  · rename_i h0; rw [h0]; have := Nat.two_pow_pos (5 * i); omega
  · rename_i h0
    rw [← Nat.log2_lt h0]
    omega

def nextC (c p L : Nat) : Nat := (5 * c + p / 32 + 1) % 2 ^ L
theorem trC_succ (h : Int) (L i : Nat) : trC h L (i + 1) = nextC (trC h L i) (trP h i) L := by simp only [trC, nextC, trP_succ]
theorem nextC_lt (c p L : Nat) : nextC c p L < 2 ^ L := Nat.mod_lt _ (Nat.two_pow_pos L)
/-- The next cell, as Next reckons it. -/
theorem next_eq (c p : Nat) {L : Nat} (hL : L ≤ 20) :
    wrap64 (((c : Int) * 5 + (p : Int) / 32 + 1) % IntKind.u64.wrap (2 ^ L)) = (nextC c p L : Int) := by
  have h1 : nextC c p L < 1048576 := Nat.lt_of_lt_of_le (nextC_lt c p L) (pow_le20 hL)
  have e1 : (c : Int) * 5 + (p : Int) / 32 + 1 = ((5 * c + p / 32 + 1 : Nat) : Int) := by omega
  have e2 : nextC c p L = (5 * c + p / 32 + 1) % 2 ^ L := rfl
  rw [e1, wrap_pow hL, ← Int.natCast_emod, ← e2]
  unfold wrap64
  omega
/-- The next cell, as All reckons it. -/
theorem nextm_eq (c p : Nat) {L : Nat} (hL : L ≤ 20) (hc : c < 1048576) (hp : p < 18446744073709551616) :
    bits .and .u64 (5 * (c : Int) + (p : Int) / 32 + 1) ((2 ^ L - 1 : Nat) : Int) = (nextC c p L : Int) := by
  have e1 : 5 * (c : Int) + (p : Int) / 32 + 1 = ((5 * c + p / 32 + 1 : Nat) : Int) := by omega
  rw [e1, and_mask hL (by omega)]
  rfl
theorem rounds_eq {L : Nat} (hL : L ≤ 20) : wrap64 (wrap64 (2 ^ L) + 13) = ((2 ^ L + 13 : Nat) : Int) := by
  have h := pow_le20 hL
  rw [pow_cast]
  generalize 2 ^ L = n at *
  unfold wrap64
  omega

/-- S k = 1 + 5 + .. + 5^(k-1). -/
def sum5 : Nat → Nat
  | 0 => 0
  | k + 1 => 5 * sum5 k + 1

theorem sum5_eq (k : Nat) : 4 * sum5 k + 1 = 5 ^ k := by
  induction k with
  | zero => rfl
  | succ k ih => rw [Nat.pow_succ, ← ih]; simp only [sum5]; omega

theorem sum5_add (m n : Nat) : sum5 (m + n) = 5 ^ m * sum5 n + sum5 m := by
  have h1 := sum5_eq (m + n)
  have h2 := sum5_eq m
  have h3 := sum5_eq n
  rw [Nat.pow_add, ← h2, ← h3] at h1
  rw [← h2, Nat.add_mul]
  have : (4 * sum5 m + 1) * (4 * sum5 n + 1) = 4 * (4 * sum5 m * sum5 n) + 4 * sum5 m + 4 * sum5 n + 1 := by
    rw [Nat.add_mul, Nat.mul_add, Nat.mul_add]
    have : 4 * sum5 m * (4 * sum5 n) = 4 * (4 * sum5 m * sum5 n) := Nat.mul_left_comm _ _ _
    omega
  omega

theorem pow5_mod4 (m : Nat) : 5 ^ m % 4 = 1 := by
  have := sum5_eq m
  omega

theorem sum5_parity (k : Nat) : sum5 k % 2 = k % 2 := by
  induction k with
  | zero => rfl
  | succ k ih => simp only [sum5]; omega

theorem sum5_dvd (L : Nat) : ∀ k, 2 ^ L ∣ sum5 k → 2 ^ L ∣ k := by
  induction L with
  | zero => intro k _; simp
  | succ L ih =>
    intro k hk
    have hev : k % 2 = 0 := by
      have h2 : 2 ∣ sum5 k := Nat.dvd_trans ⟨2 ^ L, by rw [Nat.pow_succ, Nat.mul_comm]⟩ hk
      have := sum5_parity k
      omega
    obtain ⟨m, rfl⟩ : ∃ m, k = m + m := ⟨k / 2, by omega⟩
    rw [sum5_add] at hk
    have e : 5 ^ m * sum5 m + sum5 m = (5 ^ m + 1) * sum5 m := by rw [Nat.add_mul, Nat.one_mul]
    have h4 := pow5_mod4 m
    obtain ⟨q, hq⟩ : ∃ q, 5 ^ m + 1 = 2 * (2 * q + 1) := ⟨5 ^ m / 4, by omega⟩
    rw [e, hq, Nat.pow_succ, Nat.mul_comm (2 ^ L) 2, Nat.mul_assoc 2] at hk
    have hk' : 2 ^ L ∣ (2 * q + 1) * sum5 m := Nat.dvd_of_mul_dvd_mul_left (by omega) hk
    have hc : Nat.Coprime (2 ^ L) (2 * q + 1) := by
      apply Nat.Coprime.pow_left
      rw [Nat.coprime_iff_gcd_eq_one, Nat.gcd_rec]
      simp
    have := ih m (hc.dvd_of_dvd_mul_left hk')
    obtain ⟨r, hr⟩ := this
    exact ⟨r, by rw [Nat.pow_succ, Nat.mul_assoc, Nat.mul_left_comm, ← hr]; omega⟩

/-- 5^n x + S n, what n steps 'x ↦ 5 x + 1' make of x. -/
def run5 (x : Nat) : Nat → Nat
  | 0 => x
  | n + 1 => 5 * run5 x n + 1

theorem run5_eq (x n : Nat) : run5 x n = 5 ^ n * x + sum5 n := by
  induction n with
  | zero => simp [run5, sum5]
  | succ n ih => simp only [run5, sum5, ih, Nat.pow_succ]; rw [Nat.mul_add, ← Nat.mul_assoc, Nat.mul_comm 5 (5 ^ n)]; omega

/-- Two of the cells that stand fewer than 2^L steps apart are unlike. -/
theorem run5_apart (x L i j : Nat) (hij : i < j) (hj : j < i + 2 ^ L) : run5 x i % 2 ^ L ≠ run5 x j % 2 ^ L := by
  intro h
  obtain ⟨k, rfl⟩ : ∃ k, j = i + k := ⟨j - i, by omega⟩
  have hd : 2 ^ L ∣ run5 x (i + k) - run5 x i := by
    rw [Nat.dvd_iff_mod_eq_zero]
    exact Nat.sub_mod_eq_zero_of_mod_eq h.symm
  have e : run5 x (i + k) - run5 x i = sum5 k * (5 ^ i * (4 * x + 1)) := by
    rw [run5_eq, run5_eq, sum5_add, Nat.pow_add]
    have h5 := sum5_eq k
    rw [← h5]
    have : 5 ^ i * (4 * sum5 k + 1) * x = 5 ^ i * (4 * sum5 k) * x + 5 ^ i * x := by rw [Nat.mul_add, Nat.mul_one, Nat.add_mul]
    rw [this]
    have e2 : sum5 k * (5 ^ i * (4 * x + 1)) = 5 ^ i * (4 * sum5 k) * x + 5 ^ i * sum5 k := by
      rw [Nat.mul_add (5 ^ i), Nat.mul_one, Nat.mul_add, Nat.mul_comm (sum5 k) (5 ^ i)]
      congr 1
      rw [Nat.mul_assoc (5 ^ i), Nat.mul_assoc 4, Nat.mul_left_comm (sum5 k), Nat.mul_comm 4 x, Nat.mul_comm 4 (sum5 k * x), Nat.mul_assoc (sum5 k)]
    rw [e2]
    omega
  rw [e] at hd
  have hodd : (5 ^ i * (4 * x + 1)) % 2 = 1 := by
    have h4 := pow5_mod4 i
    rw [Nat.mul_mod]
    have a : 5 ^ i % 2 = 1 := by omega
    have b : (4 * x + 1) % 2 = 1 := by omega
    rw [a, b]
  have hc : Nat.Coprime (2 ^ L) (5 ^ i * (4 * x + 1)) := by
    apply Nat.Coprime.pow_left
    rw [Nat.coprime_iff_gcd_eq_one, Nat.gcd_rec, hodd]
    rfl
  have hk := sum5_dvd L k (hc.dvd_of_dvd_mul_right hd)
  have := Nat.le_of_dvd (by omega) hk
  omega

/-- Words that are one modulo 2^(L + 5 k) have the first k + 1 cells in common. -/
theorem trP_mod (a : Int) (L i : Nat) : trP a i % 2 ^ L = U a % 2 ^ (L + 5 * i) / 32 ^ i := by
  unfold trP
  rw [Nat.pow_add, Nat.pow_mul, show (2 ^ 5 : Nat) = 32 by rfl, Nat.mod_mul_left_div_self]
theorem mod_mod_pow {x y n m : Nat} (h : x % 2 ^ n = y % 2 ^ n) (hm : m ≤ n) : x % 2 ^ m = y % 2 ^ m := by
  have hd : 2 ^ m ∣ 2 ^ n := Nat.pow_dvd_pow 2 hm
  rw [← Nat.mod_mod_of_dvd x hd, h, Nat.mod_mod_of_dvd y hd]
theorem trC_alike (a b : Int) (L k : Nat) (h : U a % 2 ^ (L + 5 * k) = U b % 2 ^ (L + 5 * k)) : ∀ i, i ≤ k → trC a L i = trC b L i := by
  intro i
  induction i with
  | zero => intro _; exact mod_mod_pow h (by omega)
  | succ i ih =>
    intro hi
    have e := ih (by omega)
    have hp : trP a (i + 1) % 2 ^ L = trP b (i + 1) % 2 ^ L := by
      rw [trP_mod, trP_mod, mod_mod_pow h (show L + 5 * (i + 1) ≤ L + 5 * k by omega)]
    simp only [trC, e]
    rw [Nat.add_mod, Nat.add_mod (5 * trC b L i), hp, ← Nat.add_mod (5 * trC b L i), ← Nat.add_mod]
theorem U_of_word {x : Int} (h0 : 0 ≤ x) (h1 : x < 18446744073709551616) : (U (wrap64 x) : Int) = x := by
  rw [U_cast]; unfold wrap64; omega
theorem pow_lt64 {n : Nat} (h : n ≤ 63) : 2 ^ n ≤ 9223372036854775808 := Nat.pow_le_pow_right (by omega) h
theorem wrap_mask63 {n : Nat} (hn : n ≤ 63) : IntKind.u64.wrap (IntKind.u64.wrap (2 ^ n) - 1) = ((2 ^ n - 1 : Nat) : Int) := by
  have h := pow_lt64 hn
  have h' := Nat.two_pow_pos n
  simp only [IntKind.wrap_u64, pow_cast]
  generalize 2 ^ n = m at *
  omega
theorem twin_mod (h o : Int) {n : Nat} (hn : n ≤ 63) :
    U (wrap64 (bits .or .u64 (bits .and .u64 (IntKind.u64.wrap h) (IntKind.u64.wrap (IntKind.u64.wrap (2 ^ n) - 1))) (bits .andNot .u64 (IntKind.u64.wrap o) (IntKind.u64.wrap (IntKind.u64.wrap (2 ^ n) - 1))))) % 2 ^ n = U h % 2 ^ n := by
  have hp := pow_lt64 hn
  have hp' := Nat.two_pow_pos n
  have h1 := U_lt h
  have h2 := U_lt o
  have ha : U h &&& (2 ^ n - 1) < 18446744073709551616 := Nat.lt_of_le_of_lt Nat.and_le_left h1
  have hb : U o &&& (18446744073709551615 - (2 ^ n - 1)) < 18446744073709551616 := Nat.lt_of_le_of_lt Nat.and_le_left h2
  have hor : (U h &&& (2 ^ n - 1)) ||| (U o &&& (18446744073709551615 - (2 ^ n - 1))) < 18446744073709551616 := Nat.or_lt_two_pow (n := 64) ha hb
  rw [wrap_mask63 hn, wrap_U, wrap_U, u64_and_nat _ _ h1 (by omega), u64_andNot_nat _ _ h2 (by omega), u64_or_nat _ _ ha hb]
  have e := U_of_word (x := (((U h &&& (2 ^ n - 1)) ||| (U o &&& (18446744073709551615 - (2 ^ n - 1))) : Nat) : Int)) (by omega) (by omega)
  have e' := Int.ofNat.inj e
  rw [e', Nat.or_mod_two_pow, Nat.and_mod_two_pow, Nat.and_mod_two_pow]
  have z : (18446744073709551615 - (2 ^ n - 1)) % 2 ^ n = 0 := by
    have e2 : 18446744073709551615 - (2 ^ n - 1) = 2 ^ n * (2 ^ (64 - n) - 1) := by
      rw [Nat.mul_sub, ← Nat.pow_add, show n + (64 - n) = 64 by omega]; omega
    rw [e2, Nat.mul_mod_right]
  rw [z, Nat.and_zero, Nat.or_zero, Nat.mod_eq_of_lt (show 2 ^ n - 1 < 2 ^ n by omega), Nat.and_two_pow_sub_one_eq_mod, Nat.mod_mod]

theorem mod_step (a b m : Nat) (h : a % m = b % m) : (5 * a + 1) % m = (5 * b + 1) % m := by
  rw [Nat.add_mod, Nat.mul_mod, h, ← Nat.mul_mod, ← Nat.add_mod]
theorem trC_run (h : Int) (L n : Nat) : trC h L (trS h + n) = run5 (trC h L (trS h)) n % 2 ^ L := by
  induction n with
  | zero => simp only [run5, Nat.add_zero]; exact (Nat.mod_eq_of_lt (trC_lt h L _)).symm
  | succ n ih =>
    have hp : trP h (trS h + n + 1) = 0 := (trP_zero_iff h _).2 (by omega)
    rw [show trS h + (n + 1) = trS h + n + 1 by omega]
    simp only [trC, hp, run5, Nat.add_zero]
    exact mod_step _ _ _ (by rw [ih, Nat.mod_mod])
/-- From the cell number trS on no cell comes again among 2^L in a row. -/
theorem trC_apart (h : Int) (L i j : Nat) (hs : trS h ≤ i) (hij : i < j) (hj : j < i + 2 ^ L) : trC h L i ≠ trC h L j := by
  obtain ⟨n, rfl⟩ : ∃ n, i = trS h + n := ⟨i - trS h, by omega⟩
  obtain ⟨m, rfl⟩ : ∃ m, j = trS h + m := ⟨j - trS h, by omega⟩
  rw [trC_run, trC_run]
  exact run5_apart _ L n m (by omega) (by omega)
end Go.Proofs.Ytnaeehnnjhklbaa
