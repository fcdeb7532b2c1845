/- The digest: a block, as both texts have it. -/
import Derived.Test.YtnebpmcmdmpoaaaDoorPDig1
import Derived.KernelRfl
namespace Go.Proofs.YtnebpmcmdmpoaaaDoor.R
open Go
set_option linter.unusedSimpArgs false
set_option linter.unusedVariables false
set_option maxRecDepth 10000

/-! ### The words of a block -/

/-- a byte of a row, 0 behind its end -/
def by_ (l : List UInt8) (i : Nat) : Int := toI (l.getD i 0)
theorem by_b (l : List UInt8) (i : Nat) : 0 ≤ by_ l i ∧ by_ l i < 256 := toI_lt _
def wordM (l : List UInt8) (j : Nat) : Int := by_ l (4 * j) + 256 * by_ l (4 * j + 1) + 65536 * by_ l (4 * j + 2) + 16777216 * by_ l (4 * j + 3)
def wordsM (l : List UInt8) : List Int := (List.range 16).map (wordM l)
theorem wordM_b (l : List UInt8) (j : Nat) : 0 ≤ wordM l j ∧ wordM l j < 4294967296 := by
  unfold wordM
  have := by_b l (4 * j); have := by_b l (4 * j + 1); have := by_b l (4 * j + 2); have := by_b l (4 * j + 3)
  omega

theorem shl_u32 (a : Int) (s : Nat) (hs : s ≤ 32) : shl .u32 a (s : Int) = a * 2 ^ s % 4294967296 := by
  unfold shl
  rw [wu32, Int.toNat_natCast, Nat.min_eq_left (show s ≤ IntKind.u32.bits from hs)]
theorem u32_glue (a b : Int) (s : Nat) (hs : s ≤ 32) (ha : 0 ≤ a) (ha1 : a * 2 ^ s < 4294967296) (hb : 0 ≤ b) (hb1 : b < 2 ^ s) : ior .u32 (a * 2 ^ s) b = a * 2 ^ s + b := by
  obtain ⟨a, rfl⟩ := Int.eq_ofNat_of_zero_le ha
  obtain ⟨b, rfl⟩ := Int.eq_ofNat_of_zero_le hb
  have hb2 : b < 2 ^ s := by
    have : (b : Int) < ((2 ^ s : Nat) : Int) := by simpa using hb1
    omega
  have hp : (2 ^ s : Nat) ≤ 2 ^ 32 := Nat.pow_le_pow_right (by decide) hs
  have e : ((a : Int) * 2 ^ s) = ((a * 2 ^ s : Nat) : Int) := by simp
  rw [e] at ha1 ⊢
  rw [ior_eq, u32_or_nat _ _ (by omega) (by omega), Nat.mul_comm a, ← Nat.two_pow_add_eq_or_of_lt hb2]
  simp

/-- the reference: from the last byte on -/
theorem word_l0 {Ω : Type} (ret : Int × Unit → Option Ω) (k n : Nat) (s : ByteArray) (hs : s.size ≤ 1000000) (at_ : Nat) (hat : at_ ≤ 1000000) (i : Nat) (hi : i < 4) (x : Int) (hx0 : 0 ≤ x) (hx : x < 16777216) :
    f_bourneref03_word_l0 ret k (n + 1) s at_ x i = f_bourneref03_word_l0 ret k n s at_ (x * 256 + by_ s.data.toList (at_ + i)) ((i : Int) - 1) := by
  have h8 : shl .u32 x 8 = x * 256 := by
    have := shl_u32 x 8 (by decide)
    rw [show ((8 : Nat) : Int) = 8 from rfl] at this
    rw [this]; omega
  have hb := by_b s.data.toList (at_ + i)
  rw [f_bourneref03_word_l0]
  simp only [f_bourneref03_word_l0s]
  rw [bif_pos (by omega), w64 (x := (at_ : Int) + i) (by omega) (by omega), w64 (x := (i : Int) - 1) (by omega) (by omega), h8]
  by_cases hlt : (at_ : Int) + i < (s.size : Int)
  · have hl : at_ + i < s.data.toList.length := by rw [← size_eq]; omega
    have e : (at_ : Int) + i = ((at_ + i : Nat) : Int) := by omega
    have hby : bt s ((at_ + i : Nat) : Int) = by_ s.data.toList (at_ + i) := by
      rw [bt_eq s _ hl]; unfold by_; rw [List.getD_eq_getElem?_getD, List.getElem?_eq_getElem hl]; rfl
    rw [bif_pos hlt, bif_in (by omega) hlt, e, hby, wu32, Int.emod_eq_of_lt hb.1 (by omega)]
    have := u32_glue x (by_ s.data.toList (at_ + i)) 8 (by decide) hx0 (by omega) hb.1 (by omega)
    rw [show x * 2 ^ 8 = x * 256 by omega] at this
    rw [this]
  · have hz : by_ s.data.toList (at_ + i) = 0 := by
      unfold by_
      rw [List.getD_eq_getElem?_getD, List.getElem?_eq_none (by rw [← size_eq]; omega)]; rfl
    rw [bif_neg hlt, hz, Int.add_zero]

theorem by_drop (l : List UInt8) (a i : Nat) : by_ (l.drop a) i = by_ l (a + i) := by
  unfold by_; rw [List.getD_eq_getElem?_getD, List.getD_eq_getElem?_getD, List.getElem?_drop]

theorem word_ok {s : ByteArray} (hs : s.size ≤ 1000000) (at_ j : Nat) (hat : at_ + 4 * j ≤ 1000000) : F_bourneref03_word (s, ((at_ + 4 * j : Nat) : Int), ()) = some (wordM (s.data.toList.drop at_) j, ()) := by
  refine ends_of (.from 5 fun k hk => ?_)
  obtain ⟨k', rfl⟩ : ∃ k', k = k' + 5 := ⟨k - 5, by omega⟩
  have b0 := by_b s.data.toList (at_ + 4 * j + 3)
  have b1 := by_b s.data.toList (at_ + 4 * j + 2)
  have b2 := by_b s.data.toList (at_ + 4 * j + 1)
  have b3 := by_b s.data.toList (at_ + 4 * j)
  unfold f_bourneref03_word f_bourneref03_word_b
  dsimp only
  rw [show (3 : Int) = ((3 : Nat) : Int) from rfl, word_l0 some _ _ s hs _ hat 3 (by decide) 0 (by omega) (by omega), show ((3 : Nat) : Int) - 1 = ((2 : Nat) : Int) from rfl,
    word_l0 some _ _ s hs _ hat 2 (by decide) _ (by omega) (by omega), show ((2 : Nat) : Int) - 1 = ((1 : Nat) : Int) from rfl, word_l0 some _ _ s hs _ hat 1 (by decide) _ (by omega) (by omega),
    show ((1 : Nat) : Int) - 1 = ((0 : Nat) : Int) from rfl, word_l0 some _ _ s hs _ hat 0 (by decide) _ (by omega) (by omega), f_bourneref03_word_l0]
  simp only [f_bourneref03_word_l0s]
  rw [bif_neg (by omega)]
  congr 2
  unfold wordM
  rw [by_drop, by_drop, by_drop, by_drop, show at_ + (4 * j + 1) = at_ + 4 * j + 1 by omega, show at_ + (4 * j + 2) = at_ + 4 * j + 2 by omega, show at_ + (4 * j + 3) = at_ + 4 * j + 3 by omega]
  simp only [Nat.add_zero]
  omega

/-! ### The program's words -/

theorem tup16 (l : List Int) (h : l.length = 16) : [l.getD 0 0, l.getD 1 0, l.getD 2 0, l.getD 3 0, l.getD 4 0, l.getD 5 0, l.getD 6 0, l.getD 7 0, l.getD 8 0, l.getD 9 0, l.getD 10 0, l.getD 11 0, l.getD 12 0, l.getD 13 0, l.getD 14 0, l.getD 15 0] = l := by
  match l, h with
  | [_, _, _, _, _, _, _, _, _, _, _, _, _, _, _, _], _ => rfl
theorem tup8 (l : List Int) (h : l.length = 8) : [l.getD 0 0, l.getD 1 0, l.getD 2 0, l.getD 3 0, l.getD 4 0, l.getD 5 0, l.getD 6 0, l.getD 7 0] = l := by
  match l, h with
  | [_, _, _, _, _, _, _, _], _ => rfl

abbrev T8 := Int × (Int × (Int × (Int × (Int × (Int × (Int × (Int × Unit)))))))
abbrev T16 := Int × (Int × (Int × (Int × (Int × (Int × (Int × (Int × T8)))))))
def t8 (l : List Int) : T8 := (l.getD 0 0, l.getD 1 0, l.getD 2 0, l.getD 3 0, l.getD 4 0, l.getD 5 0, l.getD 6 0, l.getD 7 0, ())
def t16 (l : List Int) : T16 := (l.getD 0 0, l.getD 1 0, l.getD 2 0, l.getD 3 0, l.getD 4 0, l.getD 5 0, l.getD 6 0, l.getD 7 0, l.getD 8 0, l.getD 9 0, l.getD 10 0, l.getD 11 0, l.getD 12 0, l.getD 13 0, l.getD 14 0, l.getD 15 0, ())

/-- the words of the first i bytes -/
def wpart (l : List UInt8) (i : Nat) : List Int := (List.range 16).map (wordM (l.take i))
theorem wpart_get (l : List UInt8) (i j : Nat) (hj : j < 16) : (wpart l i).getD j 0 = wordM (l.take i) j := by
  unfold wpart
  rw [List.getD_eq_getElem?_getD, List.getElem?_map, List.getElem?_range hj]; rfl
theorem wpart_len (l : List UInt8) (i : Nat) : (wpart l i).length = 16 := by simp [wpart]
theorem by_take (l : List UInt8) (i j : Nat) : by_ (l.take i) j = if j < i then by_ l j else 0 := by
  unfold by_
  rw [List.getD_eq_getElem?_getD, List.getElem?_take]
  split
  · rw [List.getD_eq_getElem?_getD]
  · rfl

theorem wpart_succ (l : List UInt8) (i : Nat) (hi : i < 64) : wpart l (i + 1) = (wpart l i).set (i / 4) (wordM (l.take i) (i / 4) + by_ l i * 2 ^ (8 * (i % 4))) := by
  apply List.ext_getElem
  · simp [wpart]
  · intro j h1 h2
    have hj : j < 16 := by simpa [wpart] using h1
    have p1 : (wpart l (i + 1))[j] = wordM (l.take (i + 1)) j := by simp [wpart]
    have p2 : (wpart l i)[j]'(by rw [wpart_len]; exact hj) = wordM (l.take i) j := by simp [wpart]
    rw [List.getElem_set]
    refine Eq.trans p1 (Eq.trans ?_ (congrArg (fun z => if i / 4 = j then wordM (l.take i) (i / 4) + by_ l i * 2 ^ (8 * (i % 4)) else z) p2.symm))
    unfold wordM
    simp only [by_take]
    by_cases e : i / 4 = j
    · rw [if_pos e]
      subst e
      have hm : i % 4 = 0 ∨ i % 4 = 1 ∨ i % 4 = 2 ∨ i % 4 = 3 := by omega
      rcases hm with hm | hm | hm | hm
      · rw [hm, if_pos (by omega), if_neg (by omega), if_neg (by omega), if_neg (by omega), if_neg (by omega), if_neg (by omega), if_neg (by omega), if_neg (by omega), show 4 * (i / 4) = i by omega]
        omega
      · rw [hm, if_pos (by omega), if_pos (by omega), if_neg (by omega), if_neg (by omega), if_pos (by omega), if_neg (by omega), if_neg (by omega), if_neg (by omega), show 4 * (i / 4) + 1 = i by omega]
        omega
      · rw [hm, if_pos (by omega), if_pos (by omega), if_pos (by omega), if_neg (by omega), if_pos (by omega), if_pos (by omega), if_neg (by omega), if_neg (by omega), show 4 * (i / 4) + 2 = i by omega]
        omega
      · rw [hm, if_pos (by omega), if_pos (by omega), if_pos (by omega), if_pos (by omega), if_pos (by omega), if_pos (by omega), if_pos (by omega), if_neg (by omega), show 4 * (i / 4) + 3 = i by omega]
        omega
    · rw [if_neg e]
      have h0 : ∀ x, x < 4 → (4 * j + x < i + 1 ↔ 4 * j + x < i) := by intro x hx; omega
      have h00 : 4 * j < i + 1 ↔ 4 * j < i := h0 0 (by decide)
      simp only [h0 1 (by decide), h0 2 (by decide), h0 3 (by decide), h00]

theorem wordM_small (l : List UInt8) (i : Nat) : wordM (l.take i) (i / 4) < 2 ^ (8 * (i % 4)) := by
  unfold wordM
  simp only [by_take]
  have b0 := by_b l (4 * (i / 4)); have b1 := by_b l (4 * (i / 4) + 1); have b2 := by_b l (4 * (i / 4) + 2)
  have hm : i % 4 = 0 ∨ i % 4 = 1 ∨ i % 4 = 2 ∨ i % 4 = 3 := by omega
  rcases hm with hm | hm | hm | hm
  · rw [hm, if_neg (by omega), if_neg (by omega), if_neg (by omega), if_neg (by omega)]; omega
  · rw [hm, if_pos (by omega), if_neg (by omega), if_neg (by omega), if_neg (by omega)]; omega
  · rw [hm, if_pos (by omega), if_pos (by omega), if_neg (by omega), if_neg (by omega)]; omega
  · rw [hm, if_pos (by omega), if_pos (by omega), if_pos (by omega), if_neg (by omega)]; omega

theorem words_l0 {Ω : Type} (ret : T16 × Unit → Option Ω) (k : Nat) (s : ByteArray) (hs : s.size ≤ 64) : ∀ (d n i : Nat), i + d = s.size → d < n →
    f_digest_words_l0 ret k n s (s.size : Int) (i : Int) (wpart s.data.toList i) = ret (t16 (wordsM s.data.toList), ())
  | 0, n, i, hi, hn => by
    obtain ⟨n, rfl⟩ : ∃ m, n = m + 1 := ⟨n - 1, by omega⟩
    simp only [f_digest_words_l0, f_digest_words_l0s]
    rw [bif_neg (by omega)]
    have : wpart s.data.toList i = wordsM s.data.toList := by
      unfold wpart wordsM
      rw [List.take_of_length_le (by rw [← size_eq]; omega)]
    rw [this]; rfl
  | d + 1, n, i, hi, hn => by
    obtain ⟨n, rfl⟩ : ∃ m, n = m + 1 := ⟨n - 1, by omega⟩
    have hl : i < s.data.toList.length := by rw [← size_eq]; omega
    have hby : bt s (i : Int) = by_ s.data.toList i := by
      rw [bt_eq s _ hl]; unfold by_; rw [List.getD_eq_getElem?_getD, List.getElem?_eq_getElem hl]; rfl
    have hb := by_b s.data.toList i
    have hw0 := wordM_b (s.data.toList.take i) (i / 4)
    have hw1 := wordM_small s.data.toList i
    simp only [f_digest_words_l0, f_digest_words_l0s]
    rw [bif_pos (by omega), tdiv_pos (by omega), tmod_pos (by omega), w64 (x := (i : Int) / 4) (by omega) (by omega), w64 (x := 8 * ((i : Int) % 4)) (by omega) (by omega), bif_in (by omega) (by omega), bif_in (by omega) (by omega), bif_neg (by omega), bif_in (by omega) (by omega), w64 (x := (i : Int) + 1) (by omega) (by omega), hby, wu32, Int.emod_eq_of_lt hb.1 (by omega)]
    have e1 : (i : Int) / 4 = ((i / 4 : Nat) : Int) := by omega
    have e2 : 8 * ((i : Int) % 4) = ((8 * (i % 4) : Nat) : Int) := by omega
    have e3 : (i : Int) + 1 = ((i + 1 : Nat) : Int) := by omega
    have hpow : by_ s.data.toList i * 2 ^ (8 * (i % 4)) < 4294967296 := by
      have hm : i % 4 = 0 ∨ i % 4 = 1 ∨ i % 4 = 2 ∨ i % 4 = 3 := by omega
      rcases hm with hm | hm | hm | hm <;> rw [hm] <;> omega
    have hpow0 : 0 ≤ by_ s.data.toList i * 2 ^ (8 * (i % 4)) := Int.mul_nonneg hb.1 (Int.le_of_lt (Int.pow_pos (by decide)))
    rw [e1, e2, e3, Int.toNat_natCast, wpart_get _ _ _ (by omega), shl_u32 _ _ (by omega), Int.emod_eq_of_lt hpow0 hpow, ior_comm, u32_glue _ _ _ (by omega) hb.1 hpow hw0.1 hw1, Int.add_comm, ← wpart_succ _ _ (by omega)]
    exact words_l0 ret k s hs d n (i + 1) (by omega) (by omega)

theorem words_ok {s : ByteArray} (hs : s.size ≤ 64) : F_digest_words (s, ()) = some (t16 (wordsM s.data.toList), ()) := by
  refine ends_of (.from 65 fun k hk => ?_)
  have := words_l0 some k s hs s.size k 0 (by omega) (by omega)
  exact this
end Go.Proofs.YtnebpmcmdmpoaaaDoor.R
