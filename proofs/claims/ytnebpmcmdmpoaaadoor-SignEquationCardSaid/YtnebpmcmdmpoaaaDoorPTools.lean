/- Small laws for the printed functions: tests, numbers that wrap, bits, lists by index. -/
import Derived.Test.YtnebpmcmdmpoaaaDoorRFun
import Derived.Test.YtnebpmcmdmpoaaaDoorRFrame
import Derived.Laws.BitsAllLaws
import Derived.Laws.BitsLemmas
import Derived.Laws.Bits64
namespace Go.Proofs.YtnebpmcmdmpoaaaDoor.R
open Go
set_option linter.unusedSimpArgs false
set_option linter.unusedVariables false

/-! ### Tests -/
section
variable {α : Type} {a b : α}
theorem bif_pos {p : Prop} [Decidable p] (h : p) : (bif decide p then a else b) = a := by rw [decide_eq_true h]; rfl
theorem bif_neg {p : Prop} [Decidable p] (h : ¬ p) : (bif decide p then a else b) = b := by rw [decide_eq_false h]; rfl
theorem bif_eq {x y : Int} (h : x = y) : (bif x == y then a else b) = a := by rw [beq_iff_eq.2 h]; rfl
theorem bif_ne {x y : Int} (h : x ≠ y) : (bif x == y then a else b) = b := by rw [beq_eq_false_iff_ne.2 h]; rfl
theorem bif_of {c : Bool} (h : c = true) : (bif c then a else b) = a := by rw [h]; rfl
theorem bif_not {c : Bool} (h : c = false) : (bif c then a else b) = b := by rw [h]; rfl
theorem inB_of {i n : Int} (h0 : 0 ≤ i) (h1 : i < n) : inB i n = true := by simp [inB, h0, h1]
theorem bif_in {i n : Int} (h0 : 0 ≤ i) (h1 : i < n) : (bif inB i n then a else b) = a := bif_of (inB_of h0 h1)
theorem inS_of {l u n : Int} (h0 : 0 ≤ l) (h1 : l ≤ u) (h2 : u ≤ n) : inS l u n = true := by simp [inS, h0, h1, h2]
theorem bif_is {l u n : Int} (h0 : 0 ≤ l) (h1 : l ≤ u) (h2 : u ≤ n) : (bif inS l u n then a else b) = a := bif_of (inS_of h0 h1 h2)
theorem room_of {n : Int} {k : Nat} (h : n * k ≤ 140737488355328) : room n k = true := by unfold room; rw [roomLim_eq]; exact decide_eq_true h
theorem bif_room {n : Int} {k : Nat} (h : n * k ≤ 140737488355328) : (bif room n k then a else b) = a := bif_of (room_of h)
theorem bif_ite {c : Bool} : (bif c then a else b) = if c = true then a else b := by cases c <;> rfl
end

theorem andK_some {Ω α : Type} {o : Option α} {x : α} {K : α → Option Ω} (h : o = some x) : andK o K = K x := by rw [h]; rfl

/-- a loop's rounds: what holds for all numbers of rounds from d + 1 on -/
theorem Ev.now {β : Type} {f : Nat → Option β} {r : β} (h : ∀ k, f k = some r) : Ev f r := ⟨0, fun k _ => h k⟩
theorem Ev.from {β : Type} {f : Nat → Option β} {r : β} (d : Nat) (h : ∀ k, d ≤ k → f k = some r) : Ev f r := ⟨d, h⟩

/-! ### Numbers -/
theorem w64 {x : Int} (h0 : -9223372036854775808 ≤ x) (h1 : x ≤ 9223372036854775807) : IntKind.i64.wrap x = x := by rw [IntKind.wrap_i64]; omega
theorem wu64 (x : Int) : IntKind.u64.wrap x = x % 18446744073709551616 := IntKind.wrap_u64 x
theorem wu64_in {x : Int} (h0 : 0 ≤ x) (h1 : x < 18446744073709551616) : IntKind.u64.wrap x = x := by rw [wu64]; omega
theorem wu32 (x : Int) : IntKind.u32.wrap x = x % 4294967296 := IntKind.wrap_u32' x
theorem wu8 (x : Int) : IntKind.u8.wrap x = x % 256 := IntKind.wrap_u8' x
def Fits (x : Int) : Prop := -9223372036854775808 ≤ x ∧ x ≤ 9223372036854775807
theorem fits_of_wf {x : Int} (h : (Lit.int .i64 x).wf = true) : Fits x := by
  simp [Lit.wf, IntKind.min, IntKind.max, IntKind.bits, IntKind.signed] at h
  exact ⟨by omega, by omega⟩
theorem okT_i64 {x : Int} (h : okT (.int .i64) x) : Fits x := fits_of_wf h

/-! ### Bits -/
theorem iand_eq (k : IntKind) (a b : Int) : iand k a b = Go.bits .and k a b := rfl
theorem ior_eq (k : IntKind) (a b : Int) : ior k a b = Go.bits .or k a b := rfl
theorem ixor_eq (k : IntKind) (a b : Int) : ixor k a b = Go.bits .xor k a b := rfl
theorem wraps_u64 (n : Int) (h0 : 0 ≤ n) (h1 : n < 2 ^ 64) : IntKind.u64.wrap n = n := wu64_in h0 (by simpa using h1)
theorem wraps_i64 (n : Int) (h0 : 0 ≤ n) (h1 : n < 2 ^ 63) : IntKind.i64.wrap n = n := by
  have : (2 : Int) ^ 63 = 9223372036854775808 := by decide
  exact w64 (by omega) (by omega)
theorem u64_low (x : Int) (h0 : 0 ≤ x) (h1 : x < 18446744073709551616) : iand .u64 x 4294967295 = x % 4294967296 :=
  bits_mask .u64 64 (by decide) wraps_u64 32 (by decide) x h0 h1
theorem u64_glue (a b : Int) (s : Nat) (hs : s ≤ 64) (ha : 0 ≤ a) (ha1 : a * 2 ^ s < 18446744073709551616) (hb : 0 ≤ b) (hb1 : b < 2 ^ s) : ior .u64 (a * 2 ^ s) b = a * 2 ^ s + b := by
  obtain ⟨a, rfl⟩ := Int.eq_ofNat_of_zero_le ha
  obtain ⟨b, rfl⟩ := Int.eq_ofNat_of_zero_le hb
  have hb2 : b < 2 ^ s := by
    have : (b : Int) < ((2 ^ s : Nat) : Int) := by simpa using hb1
    omega
  have hp : (2 ^ s : Nat) ≤ 2 ^ 64 := Nat.pow_le_pow_right (by decide) hs
  have e : ((a : Int) * 2 ^ s) = ((a * 2 ^ s : Nat) : Int) := by simp
  rw [e] at ha1 ⊢
  rw [ior_eq, u64_or_nat _ _ (by omega) (by omega), Nat.mul_comm a, ← Nat.two_pow_add_eq_or_of_lt hb2]
  simp
theorem shl_u64 (a : Int) (s : Nat) (hs : s ≤ 64) : shl .u64 a (s : Int) = a * 2 ^ s % 18446744073709551616 := by
  unfold shl
  rw [wu64, Int.toNat_natCast, Nat.min_eq_left (show s ≤ IntKind.u64.bits from hs)]
theorem shr_u64 (a : Int) (s : Nat) (hs : s ≤ 64) : shr .u64 a (s : Int) = a / 2 ^ s := by
  unfold shr
  rw [Int.toNat_natCast, Nat.min_eq_left (show s ≤ IntKind.u64.bits from hs)]
  exact Int.fdiv_eq_ediv_of_nonneg _ (Int.le_of_lt (Int.pow_pos (by decide)))
theorem shr_i64 (a : Int) (s : Nat) (hs : s ≤ 64) : shr .i64 a (s : Int) = a / 2 ^ s := by
  unfold shr
  rw [Int.toNat_natCast, Nat.min_eq_left (show s ≤ IntKind.i64.bits from hs)]
  exact Int.fdiv_eq_ediv_of_nonneg _ (Int.le_of_lt (Int.pow_pos (by decide)))
theorem iand_one (x : Int) (h0 : 0 ≤ x) (h1 : x < 9223372036854775808) : iand .i64 x 1 = x % 2 := by
  have h2 : (2 : Int) ^ 63 = 9223372036854775808 := by decide
  rw [iand_eq]
  simpa using bits_mask .i64 63 (by decide) wraps_i64 1 (by decide) x h0 (by omega)
theorem tdiv_pos {a b : Int} (h : 0 ≤ a) : Int.tdiv a b = a / b := Int.tdiv_eq_ediv_of_nonneg h
theorem tmod_pos {a b : Int} (h : 0 ≤ a) : Int.tmod a b = a % b := Int.tmod_eq_emod_of_nonneg h
end Go.Proofs.YtnebpmcmdmpoaaaDoor.R
