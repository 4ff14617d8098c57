/- Sums of sixty-four bits, and what the runs take of a number. -/
import Derived.Test.YtgchblfkmgnaeaaGreatDoorKN
import Derived.IntWalk
set_option linter.unusedVariables false
set_option linter.unusedSimpArgs false
set_option linter.unusedSectionVars false
open Go Go.Proofs
namespace T
open Go.Ev
/-! Sixty-four bits. -/
theorem low64 (x : Int) (h1 : -9223372036854775808 ≤ x) (h2 : x ≤ 9223372036854775807) : low .i64 x = (if x < 0 then x + 18446744073709551616 else x).toNat := by
  rw [low_eq, BitVec.toNat_ofInt]
  show (x % ((2 ^ 64 : Nat) : Int)).toNat = _
  have : ((2 ^ 64 : Nat) : Int) = 18446744073709551616 := by decide
  rw [this]
  split <;> omega
theorem wrapN (z : Nat) (h : z < 9223372036854775808) : wrap .i64 (Int.ofNat z) = (z : Int) := by
  rw [wrap_eq]
  exact IntWalk.i64_in z (by omega)
theorem xor_low {x y : Nat} (h : (x < 9223372036854775808 ∧ y < 9223372036854775808) ∨ (9223372036854775808 ≤ x ∧ x < 18446744073709551616 ∧ 9223372036854775808 ≤ y ∧ y < 18446744073709551616)) : Nat.xor x y < 9223372036854775808 := by
  show x ^^^ y < 2 ^ 63
  rcases h with ⟨h1, h2⟩ | ⟨h1, h2, h3, h4⟩
  · exact Nat.xor_lt_two_pow h1 h2
  · apply Nat.lt_pow_two_of_testBit
    intro i hi
    rw [Nat.testBit_xor]
    by_cases e : i = 63
    · subst e
      have b : ∀ z : Nat, 9223372036854775808 ≤ z → z < 18446744073709551616 → z.testBit 63 = true := by
        intro z g1 g2
        rw [Nat.testBit_eq_decide_div_mod_eq]
        have : z / 2 ^ 63 = 1 := by omega
        simp [this]
      rw [b x h1 h2, b y h3 h4]; rfl
    · have b : ∀ z : Nat, z < 18446744073709551616 → z.testBit i = false := by
        intro z g
        apply Nat.testBit_lt_two_pow
        exact Nat.lt_of_lt_of_le g (Nat.pow_le_pow_right (n := 2) (by omega) (show 64 ≤ i by omega))
      rw [b x h2, b y h4]; rfl
theorem and_low {x y : Nat} (h : x < 9223372036854775808 ∨ y < 9223372036854775808) : Nat.land x y < 9223372036854775808 := by
  show x &&& y < 2 ^ 63
  rcases h with h | h
  · rw [Nat.and_comm]; exact Nat.and_lt_two_pow y h
  · exact Nat.and_lt_two_pow x h
theorem lt_and {x y : Nat} (h : x < 9223372036854775808 ∨ y < 9223372036854775808) : 0 ≤ wrap .i64 (Int.ofNat (Nat.land x y)) := by
  rw [wrapN _ (and_low h)]
  omega
noncomputable def xo (x y : Int) : Int := wrap .i64 (Int.ofNat (Nat.xor (low .i64 x) (low .i64 y)))
theorem xo_low {x y : Int} (h1 : -9223372036854775808 ≤ x) (h2 : x ≤ 9223372036854775807) (h3 : -9223372036854775808 ≤ y) (h4 : y ≤ 9223372036854775807) (h : x < 0 ↔ y < 0) : low .i64 (xo x y) < 9223372036854775808 := by
  have hz : Nat.xor (low .i64 x) (low .i64 y) < 9223372036854775808 := by
    rw [low64 x h1 h2, low64 y h3 h4]
    apply xor_low
    split <;> split <;> omega
  unfold xo
  rw [wrapN _ hz, low64 _ (by omega) (by omega), if_neg (by omega)]
  omega
noncomputable def an (x y : Int) : Int := wrap .i64 (Int.ofNat (Nat.land (low .i64 x) (low .i64 y)))
/-- the sign that tells of a sum's overflow -/
theorem no_over {n : Int} (h1 : -9223372036854775808 ≤ n) (h2 : n < 9223372036854775807) : 0 ≤ an (xo 1 (n + 1)) (xo n (n + 1)) := by
  apply lt_and
  by_cases h : n < 0
  · by_cases h' : n = -1
    · exact .inl (xo_low (by omega) (by omega) (by omega) (by omega) (by omega))
    · exact .inr (xo_low (by omega) (by omega) (by omega) (by omega) (by omega))
  · exact .inl (xo_low (by omega) (by omega) (by omega) (by omega) (by omega))

noncomputable def nums (a n : Int) : List (IntKind × Int) := [(.u8, a), (.i64, n), (.i64, n + 1), (.i64, xo 1 (n + 1)), (.i64, xo n (n + 1)), (.i64, an (xo 1 (n + 1)) (xo n (n + 1)))]
theorem right5 {a n k : Int} (ha : Int.tmod a 5 = k) : Right2 (nums a n) (row5 k) := by
  intro t ht
  simp only [row5, List.mem_cons, List.not_mem_nil, or_false] at ht
  subst ht
  show some (AV.int .u8 (Int.tmod a 5)) = some (.int .u8 k)
  rw [ha]
theorem right0 {a n : Int} (ha : Int.tmod a 5 = 0) (h1 : -9223372036854775808 ≤ n) (h2 : n < 9223372036854775807) : Right2 (nums a n) rows := by
  have hw : wrap .i64 (n + 1) = n + 1 := by rw [wrap_eq]; exact IntWalk.i64_in _ (by omega)
  have hno := no_over h1 h2
  intro t ht
  simp only [rows, List.mem_cons, List.not_mem_nil, or_false] at ht
  rcases ht with rfl | rfl | rfl | rfl | rfl | rfl | rfl | rfl | rfl | rfl | rfl | rfl | rfl | rfl | rfl
  · show some (AV.int .u8 (Int.tmod a 5)) = some (.int .u8 0)
    rw [ha]
  · show some (AV.int .i64 (wrap .i64 (1 + n))) = some (.int .i64 (n + 1))
    rw [Int.add_comm, hw]
  · rfl
  · rfl
  · rfl
  · show some (AV.bool (!iLt (an (xo 1 (n + 1)) (xo n (n + 1))) 0)) = some (.bool true)
    rw [iLt_eq, decide_eq_false (by omega)]; rfl
  · show some (AV.bool (!iEq n n)) = some (.bool false)
    rw [iEq_eq]; simp
  · show some (AV.bool (!iEq (n + 1) (n + 1))) = some (.bool false)
    rw [iEq_eq]; simp
  · show some (AV.bool (iLt n (n + 1))) = some (.bool true)
    rw [iLt_eq, decide_eq_true (by omega)]
  · show some (AV.bool (iLt n 9223372036854775807)) = some (.bool true)
    rw [iLt_eq, decide_eq_true (by omega)]
  · show some (AV.int .i64 (wrap .i64 (n + 1))) = some (.int .i64 (n + 1))
    rw [hw]
  · show some (AV.bool (iEq (n + 1) (n + 1))) = some (.bool true)
    rw [iEq_eq]; simp
  · show some (AV.bool (iLt (an (xo 1 (n + 1)) (xo n (n + 1))) 0)) = some (.bool false)
    rw [iLt_eq, decide_eq_false (by omega)]
  · show some (AV.bool (iLt (n + 1) (n + 1))) = some (.bool false)
    rw [iLt_eq, decide_eq_false (by omega)]
  · show some (AV.bool (iLt (n + 1) (n + 1))) = some (.bool false)
    rw [iLt_eq, decide_eq_false (by omega)]
end T
