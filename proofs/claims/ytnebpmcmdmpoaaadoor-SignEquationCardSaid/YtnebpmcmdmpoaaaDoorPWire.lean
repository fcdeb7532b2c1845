/- The encodings of texts and numbers: the program's and the reference's. -/
import Derived.Test.YtnebpmcmdmpoaaaDoorPBits
import Derived.Test.YtnebpmcmdmpoaaaDoorG6
import Derived.Lib.SplitLaws
import Derived.Lib.CountLaws
import Derived.Lib.Replace
namespace Go.Proofs.YtnebpmcmdmpoaaaDoor.R
open Go
set_option linter.unusedSimpArgs false
set_option linter.unusedVariables false
set_option maxRecDepth 10000

/-! ### Texts as rows of bytes -/

def toI (b : UInt8) : Int := (b.toNat : Int)
theorem toI_lt (b : UInt8) : 0 ≤ toI b ∧ toI b < 256 := by unfold toI; have := b.toNat_lt; omega
theorem strOf_toI (l : List UInt8) : strOf (l.map toI) = ⟨l.toArray⟩ := by
  unfold strOf
  rw [List.map_map]
  have : ((fun n : Int => UInt8.ofNat n.toNat) ∘ toI) = id := by
    funext b
    simp [toI, Function.comp]
  rw [this, List.map_id]
theorem size_eq (s : ByteArray) : s.size = s.data.toList.length := by rw [Array.length_toList]; rfl
theorem bt_eq (s : ByteArray) (i : Nat) (h : i < s.data.toList.length) : bt s (i : Int) = toI s.data.toList[i] := by
  unfold bt toI
  rw [Int.toNat_natCast, List.getD_eq_getElem?_getD, List.getElem?_eq_getElem h]
  rfl
theorem bytesOf_eq (s : ByteArray) : bytesOf s = s.data.toList.map toI := rfl
theorem ba_append (a b : ByteArray) : (a ++ b).data.toList = a.data.toList ++ b.data.toList := by simp
theorem ba_ext {a b : ByteArray} (h : a.data.toList = b.data.toList) : a = b := by
  obtain ⟨⟨a⟩⟩ := a
  obtain ⟨⟨b⟩⟩ := b
  simp at h
  rw [h]
theorem ba_mk (l : List UInt8) : (⟨l.toArray⟩ : ByteArray).data.toList = l := by simp
theorem ba_size (l : List UInt8) : (⟨l.toArray⟩ : ByteArray).size = l.length := by simp [ByteArray.size]

/-! ### Text -/

def esc (b : UInt8) : List UInt8 := if b = 0 then [0, 255] else [b]
def textU (l : List UInt8) : List UInt8 := l.flatMap esc ++ [0, 1]
/-- the encoding of a text -/
def textB (s : ByteArray) : ByteArray := ⟨(textU s.data.toList).toArray⟩

theorem esc_len (b : UInt8) : (esc b).length ≤ 2 := by unfold esc; split <;> simp
theorem flat_len : ∀ l : List UInt8, (l.flatMap esc).length ≤ 2 * l.length
  | [] => by simp
  | b :: l => by
    have := flat_len l
    have := esc_len b
    rw [List.flatMap_cons, List.length_append, List.length_cons]; omega
theorem textU_len (l : List UInt8) : (textU l).length ≤ 2 * l.length + 2 := by
  have := flat_len l
  unfold textU; rw [List.length_append]; simp only [List.length_cons, List.length_nil]; omega
theorem textB_size (s : ByteArray) : (textB s).size ≤ 2 * s.size + 2 := by
  unfold textB; rw [ba_size, size_eq]; exact textU_len _

theorem pre0 (b : UInt8) (l : List UInt8) : ([0] : List UInt8).isPrefixOf (b :: l) = (b == 0) := by
  simp only [List.isPrefixOf, Bool.and_true]
  by_cases h : b = 0
  · subst h; rfl
  · rw [beq_eq_false_iff_ne.2 h, beq_eq_false_iff_ne.2 (fun e => h e.symm)]

theorem idx_miss : ∀ l : List UInt8, Lib.index l [0] = -1 → l.flatMap esc = l
  | [], _ => rfl
  | b :: l, h => by
    unfold Lib.index at h
    rw [pre0] at h
    by_cases hb : b = 0
    · rw [if_pos (by simp [hb])] at h; cases h
    · rw [if_neg (by simp [hb])] at h
      have hge := Lib.index_ge l [0]
      by_cases hm : Lib.index l [0] = -1
      · rw [List.flatMap_cons, idx_miss l hm]; simp [esc, hb]
      · rw [if_neg (by simpa using hm)] at h; omega

theorem idx_hit : ∀ (l : List UInt8) (i : Nat), Lib.index l [0] = (i : Int) → (l.take i).flatMap esc = l.take i ∧ l = l.take i ++ 0 :: l.drop (i + 1)
  | [], i, h => by
    have h : (-1 : Int) = i := h
    omega
  | b :: l, i, h => by
    unfold Lib.index at h
    rw [pre0] at h
    by_cases hb : b = 0
    · rw [if_pos (by simp [hb])] at h
      have : i = 0 := by omega
      subst this
      simp [hb]
    · rw [if_neg (by simp [hb])] at h
      have hge := Lib.index_ge l [0]
      by_cases hm : Lib.index l [0] = -1
      · rw [if_pos (by simpa using hm)] at h; omega
      · rw [if_neg (by simpa using hm)] at h
        obtain ⟨j, rfl⟩ : ∃ j, i = j + 1 := ⟨i - 1, by omega⟩
        obtain ⟨h1, h2⟩ := idx_hit l j (by omega)
        rw [List.take_succ_cons, List.flatMap_cons, h1, List.drop_succ_cons]
        exact ⟨by simp [esc, hb], by rw [List.cons_append, ← h2]⟩

theorem replace_esc : ∀ (n : Nat) (l : List UInt8), l.length ≤ n → Lib.replaceK [0] [0, 255] (Lib.count l [0]) l = l.flatMap esc
  | 0, l, h => by
    have : l = [] := List.length_eq_zero_iff.1 (by omega)
    subst this
    have := Lib.count_miss (s := []) (sub := [0]) (by simp [Lib.index])
    rw [this]; rfl
  | n + 1, l, h => by
    have hge := Lib.index_ge l [0]
    by_cases hm : Lib.index l [0] = -1
    · rw [Lib.count_miss hm, idx_miss l hm]; rfl
    · obtain ⟨i, hi⟩ : ∃ i : Nat, Lib.index l [0] = (i : Int) := ⟨(Lib.index l [0]).toNat, by omega⟩
      obtain ⟨h1, h2⟩ := idx_hit l i hi
      have hlen : (l.drop (i + 1)).length ≤ n := by
        have := congrArg List.length h2
        simp only [List.length_append, List.length_cons, List.length_drop, List.length_take] at this ⊢
        omega
      rw [Lib.count_hit (by simp) hi, Nat.add_comm, Lib.replaceK_hit _ _ _ _ i hi]
      simp only [List.length_cons, List.length_nil, Nat.zero_add]
      rw [replace_esc n _ hlen]
      conv => rhs; rw [h2]
      rw [List.flatMap_append, List.flatMap_cons, h1]
      simp [esc]

theorem replaceAll_esc (l : List UInt8) : Lib.replaceAll l [0] [0, 255] = l.flatMap esc := by
  unfold Lib.replaceAll Lib.replace Lib.replaceNum
  rw [if_neg (by decide), if_pos (.inl (by decide))]
  exact replace_esc l.length l (Nat.le_refl _)

theorem Text_ok {s : ByteArray} (h : s.size ≤ 1000000) : F_wire_Text (s, ()) = some (textB s, ()) := by
  have hc := Lib.countB_le (⟨#[0]⟩ : ByteArray) (by decide) s.size s (Nat.le_refl _)
  have hr : F_strings_ReplaceAll (s, ⟨#[0]⟩, ⟨#[0, 255]⟩, ()) = some ((⟨(s.data.toList.flatMap esc).toArray⟩ : ByteArray), ()) := by
    unfold F_strings_ReplaceAll
    have hsz : (⟨#[0, 255]⟩ : ByteArray).size = 2 := rfl
    rw [if_pos ⟨by dsimp only; omega, by dsimp only; decide, by dsimp only; rw [hsz]; omega⟩]
    dsimp only
    rw [replaceAll_esc]
  have hl := flat_len s.data.toList
  rw [← size_eq] at hl
  unfold F_wire_Text f_wire_Text f_wire_Text_b
  dsimp only
  rw [andK_some hr]
  dsimp only
  rw [bif_pos (by rw [ba_size]; simp only [ByteArray.size, List.size_toArray, List.length_cons, List.length_nil]; omega)]
  have e : (⟨(s.data.toList.flatMap esc).toArray⟩ : ByteArray) ++ (⟨#[0, 1]⟩ : ByteArray) = textB s := by
    apply ba_ext
    rw [ba_append]
    simp [textB, textU]
  rw [e]

theorem rText_l0 {Ω : Type} (ret : ByteArray × Unit → Option Ω) (k : Nat) (s : ByteArray) (hs : s.size ≤ 1000000) : ∀ (d n i : Nat) (nl : Bool), i + d = s.size → d < n →
    f_bourneref02_Text_l0 ret k n s (i : Int) ⟨nl, ((s.data.toList.take i).flatMap esc).map toI⟩ = ret (textB s, ())
  | 0, n, i, nl, hi, hn => by
    obtain ⟨n, rfl⟩ : ∃ m, n = m + 1 := ⟨n - 1, by omega⟩
    have hl := flat_len (s.data.toList.take i)
    rw [List.length_take] at hl
    simp only [f_bourneref02_Text_l0, f_bourneref02_Text_l0s]
    rw [bif_neg (by omega), bif_room (by rw [List.length_map]; rw [size_eq] at *; omega)]
    congr 2
    have : ((s.data.toList.take i).flatMap esc).map toI ++ [0, 1] = (textU s.data.toList).map toI := by
      rw [List.take_of_length_le (by rw [← size_eq]; omega)]
      unfold textU
      rw [List.map_append]
      rfl
    rw [this, strOf_toI]; rfl
  | d + 1, n, i, nl, hi, hn => by
    obtain ⟨n, rfl⟩ : ∃ m, n = m + 1 := ⟨n - 1, by omega⟩
    have hil : i < s.data.toList.length := by rw [← size_eq]; omega
    have hl := flat_len (s.data.toList.take i)
    rw [List.length_take] at hl
    have ih := fun nl => rText_l0 ret k s hs d n (i + 1) nl (by omega) (by omega)
    have htk : (s.data.toList.take (i + 1)).flatMap esc = (s.data.toList.take i).flatMap esc ++ esc s.data.toList[i] := by
      rw [List.take_succ_eq_append_getElem hil, List.flatMap_append]; simp
    simp only [f_bourneref02_Text_l0, f_bourneref02_Text_l0s]
    rw [bif_pos (by omega), bif_in (by omega) (by omega), bif_room (by rw [List.length_map]; rw [size_eq] at *; omega), bif_in (by omega) (by omega), bt_eq s i hil, w64 (x := (i : Int) + 1) (by omega) (by omega)]
    have e1 : ((i + 1 : Nat) : Int) = (i : Int) + 1 := by omega
    rw [e1] at ih
    by_cases hb : s.data.toList[i] = 0
    · rw [bif_eq (by rw [hb]; rfl), bif_room (by rw [List.length_append, List.length_map]; rw [size_eq] at *; simp only [List.length_cons, List.length_nil]; omega)]
      rw [← ih ((nl && false) && false), htk]
      congr 2
      rw [hb, List.map_append]
      rw [List.append_assoc]
      rfl
    · rw [bif_ne (by intro e; apply hb; unfold toI at e; apply UInt8.toNat_inj.1; simpa using e)]
      rw [← ih (nl && false), htk]
      congr 2
      rw [List.map_append]
      unfold esc
      rw [if_neg hb]
      rfl

theorem rText_ok {s : ByteArray} (h : s.size ≤ 1000000) : F_bourneref02_Text (s, ()) = some (textB s, ()) := by
  refine ends_of (.from (s.size + 1) fun k hk => ?_)
  have := rText_l0 some k s h s.size k 0 true (by omega) (by omega)
  simpa [f_bourneref02_Text, f_bourneref02_Text_b] using this

/-! ### Numbers -/

/-- the k last digits of m to the base 256, the greatest first -/
def digs : Nat → Nat → List Int
  | 0, _ => []
  | k + 1, m => digs k (m / 256) ++ [((m % 256 : Nat) : Int)]
/-- how many digits m has -/
def nd (m : Nat) : Nat := (Lib.bitLen m + 7) / 8

theorem digs_len : ∀ (k m : Nat), (digs k m).length = k
  | 0, _ => rfl
  | k + 1, m => by simp [digs, digs_len k]

theorem nd_zero : nd 0 = 0 := by decide
theorem nd_succ {m : Nat} (h0 : 0 < m) (h : m < 18446744073709551616) : nd m = nd (m / 256) + 1 := by
  unfold nd
  by_cases h1 : 256 ≤ m
  · rw [Lib.bitLen_shift8 m h1 h]; omega
  · have hz : m / 256 = 0 := Nat.div_eq_of_lt (by omega)
    rw [hz, show Lib.bitLen 0 = 0 by decide]
    have b := Lib.bitLen_le m 8 (by decide) (by omega)
    have c := (Lib.bitLenAux_bounds 64 m (by have : (2 : Nat) ^ 64 = 18446744073709551616 := by decide
                                             omega) (by omega)).1
    unfold Lib.bitLen at *
    omega
theorem nd_le {m : Nat} (h : m < 18446744073709551616) : nd m ≤ 8 := by
  have := Lib.bitLen_le m 64 (by decide) (by have : (2 : Nat) ^ 64 = 18446744073709551616 := by decide
                                             omega)
  unfold nd; omega

/-- the digits from the greatest on -/
def digsD : Nat → Nat → List Int
  | 0, _ => []
  | k + 1, m => ((m / 256 ^ k % 256 : Nat) : Int) :: digsD k m
theorem digsD_snoc : ∀ (k m : Nat), digsD (k + 1) m = digsD k (m / 256) ++ [((m % 256 : Nat) : Int)]
  | 0, m => by simp [digsD]
  | k + 1, m => by
    rw [digsD, digsD_snoc k m, digsD, List.cons_append]
    congr 3
    rw [Nat.div_div_eq_div_mul, Nat.pow_succ, Nat.mul_comm]
theorem digsD_eq : ∀ (k m : Nat), digsD k m = digs k m
  | 0, _ => rfl
  | k + 1, m => by rw [digsD_snoc, digsD_eq k, digs]

/-- the encoding of a number as bytes -/
def intL (n : Int) : List Int :=
  if 0 ≤ n then (128 + (nd n.toNat : Int)) :: digs (nd n.toNat) n.toNat
  else (127 - (nd (-(n + 1)).toNat : Int)) :: (digs (nd (-(n + 1)).toNat) (-(n + 1)).toNat).map fun b => 255 - b
def intB (n : Int) : ByteArray := strOf (intL n)

theorem intL_len {n : Int} (h : Fits n) : (intL n).length ≤ 9 := by
  unfold intL Fits at *
  split
  · have := nd_le (m := n.toNat) (by omega); simp [digs_len]; omega
  · have := nd_le (m := (-(n + 1)).toNat) (by omega); simp [digs_len]; omega
theorem intB_size {n : Int} (h : Fits n) : (intB n).size ≤ 9 := by
  have := intL_len h
  unfold intB strOf
  rw [ba_size, List.length_map]; exact this

theorem size_ok (m : Nat) (h : m < 18446744073709551616) : F_wire_size ((m : Int), ()) = some ((nd m : Int), ()) := by
  have b := Lib.bitLen_le m 64 (by decide) (by have : (2 : Nat) ^ 64 = 18446744073709551616 := by decide
                                               omega)
  unfold F_wire_size f_wire_size f_wire_size_b
  dsimp only
  rw [andK_some (len64_ok m h)]
  dsimp only
  rw [w64 (x := (Lib.bitLen m : Int) + 7) (by omega) (by omega), tdiv_pos (by omega), w64 (by omega) (by omega)]
  rfl

theorem ixor0 (b : Nat) (h : b < 256) : ixor .u8 (b : Int) 0 = b := by
  rw [ixor_eq, u8_xor _ _ (by omega) (by omega) (by omega) (by omega)]; simp
theorem ixor255 (b : Nat) (h : b < 256) : ixor .u8 (b : Int) 255 = 255 - b := by
  have : ∀ b : Fin 256, ixor .u8 (b.val : Int) 255 = 255 - (b.val : Int) := by decide +kernel
  exact this ⟨b, h⟩

/-- the program's loop over the digits; mk: what is made of a digit -/
theorem Int_l0 {Ω : Type} (ret : ByteArray × Unit → Option Ω) (k : Nat) (m : Nat) (hm : m < 18446744073709551616) (t : Int) (mk : Int → Int) (hmk : ∀ b : Nat, b < 256 → ixor .u8 (b : Int) t = mk b) : ∀ (i n : Nat) (nl : Bool) (l : List Int), i ≤ 8 → l.length ≤ 100 - i → i < n →
    f_wire_Int_l0 ret k n (m : Int) t ((i : Int) - 1) ⟨nl, l⟩ = ret (strOf (l ++ (digsD i m).map mk), ())
  | 0, n, nl, l, hi, hl, hn => by
    obtain ⟨n, rfl⟩ : ∃ j, n = j + 1 := ⟨n - 1, by omega⟩
    simp only [f_wire_Int_l0, f_wire_Int_l0s]
    rw [bif_neg (by omega)]
    simp [digsD]
  | i + 1, n, nl, l, hi, hl, hn => by
    obtain ⟨n, rfl⟩ : ∃ j, n = j + 1 := ⟨n - 1, by omega⟩
    have hsh : shr .u64 (m : Int) (8 * (i : Int)) = ((m / 256 ^ i : Nat) : Int) := by
      have := shr_u64 (m : Int) (8 * i) (by omega)
      have e : (((8 * i : Nat)) : Int) = 8 * (i : Int) := by omega
      rw [e] at this
      rw [this, show (256 : Nat) = 2 ^ 8 by decide, ← Nat.pow_mul]
      simp
    have hw : IntKind.wrap .u8 ((m / 256 ^ i : Nat) : Int) = ((m / 256 ^ i % 256 : Nat) : Int) := by rw [wu8]; omega
    simp only [f_wire_Int_l0, f_wire_Int_l0s]
    have e2 : (((i + 1 : Nat) : Int) - 1) = (i : Int) := by omega
    rw [e2]
    rw [bif_pos (by omega), w64 (x := 8 * (i : Int)) (by omega) (by omega), bif_neg (by omega), bif_room (by omega), hsh, hw, hmk _ (Nat.mod_lt _ (by decide)), w64 (x := (i : Int) - 1) (by omega) (by omega)]
    rw [Int_l0 ret k m hm t mk hmk i n _ _ (by omega) (by rw [List.length_append]; simp only [List.length_cons, List.length_nil]; omega) (by omega)]
    congr 3
    rw [digsD, List.map_cons, List.append_assoc]
    rfl

theorem inot_nat (x : Nat) (hx : x < 18446744073709551616) : inot .u64 (x : Int) = 18446744073709551615 - (x : Int) := by
  have h1 : BitVec.ofInt 64 (18446744073709551615 : Int) = BitVec.allOnes 64 := by decide
  have e : inot .u64 (x : Int) = IntKind.wrap .u64 ((BitVec.ofInt 64 (18446744073709551615 : Int) ^^^ BitVec.ofInt 64 (x : Int)).toNat : Int) := rfl
  rw [e, h1, BitVec.allOnes_xor, BitVec.toNat_not, ofInt_u64 x hx, wu64]
  have : (2 : Nat) ^ 64 = 18446744073709551616 := by decide
  omega
theorem inot_u64 (n : Int) (h0 : n < 0) (h1 : -9223372036854775808 ≤ n) : inot .u64 (IntKind.wrap .u64 n) = -(n + 1) := by
  have h2 : IntKind.wrap .u64 n = ((n + 18446744073709551616).toNat : Int) := by rw [wu64]; omega
  rw [h2, inot_nat _ (by omega)]
  omega

theorem Int_ok {n : Int} (h : Fits n) : F_wire_Int (n, ()) = some (intB n, ()) := by
  unfold Fits at h
  refine ends_of (.from 20 fun k hk => ?_)
  unfold f_wire_Int f_wire_Int_b
  dsimp only
  by_cases hn : n < 0
  · have hm : (-(n + 1)) = (((-(n + 1)).toNat : Nat) : Int) := by omega
    have hlt : (-(n + 1)).toNat < 18446744073709551616 := by omega
    have hnd := nd_le hlt
    rw [bif_pos hn, inot_u64 n hn h.1, hm, andK_some (size_ok _ hlt)]
    dsimp only
    rw [bif_pos hn, w64 (x := (nd (-(n + 1)).toNat : Int) - 1) (by omega) (by omega), w64 (x := 127 - (nd (-(n + 1)).toNat : Int)) (by omega) (by omega), wu8,
      Int_l0 some k _ hlt 255 (fun b => 255 - b) ixor255 (nd (-(n + 1)).toNat) k false _ (by omega) (by simp; omega) (by omega), digsD_eq]
    congr 2
    unfold intB intL
    rw [if_neg (by omega)]
    congr 1
    rw [List.singleton_append]
    congr 1
    omega
  · have hm : IntKind.wrap .u64 n = ((n.toNat : Nat) : Int) := by rw [wu64]; omega
    have hlt : n.toNat < 18446744073709551616 := by omega
    have hnd := nd_le hlt
    rw [bif_neg hn, hm, andK_some (size_ok _ hlt)]
    dsimp only
    rw [bif_neg hn, w64 (x := (nd n.toNat : Int) - 1) (by omega) (by omega), w64 (x := 128 + (nd n.toNat : Int)) (by omega) (by omega), wu8,
      Int_l0 some k _ hlt 0 (fun b => b) ixor0 (nd n.toNat) k false _ (by omega) (by simp; omega) (by omega), digsD_eq]
    congr 2
    unfold intB intL
    rw [if_pos (by omega)]
    congr 1
    rw [List.singleton_append, List.map_id']
    congr 1
    omega

theorem digits_l0 {Ω : Type} (ret : Sl Int × Unit → Option Ω) (k : Nat) : ∀ (n m : Nat) (nl : Bool) (l : List Int), nd m < n → m < 18446744073709551616 → l.length ≤ 100 - nd m →
    f_bourneref02_digits_l0 ret k n (m : Int) ⟨nl, l⟩ = ret (⟨if m = 0 then nl else false, digs (nd m) m ++ l⟩, ())
  | 0, _, _, _, h, _, _ => by omega
  | n + 1, m, nl, l, h, hm, hl => by
    simp only [f_bourneref02_digits_l0, f_bourneref02_digits_l0s]
    by_cases h0 : 0 < m
    · have hs := nd_succ h0 hm
      have h8 := nd_le hm
      rw [bif_pos (by omega), bif_room (by omega), tdiv_pos (by omega), tmod_pos (by omega), wu64_in (by omega) (by omega), wu8]
      have e1 : (m : Int) / 256 = ((m / 256 : Nat) : Int) := by omega
      have e2 : (m : Int) % 256 % 256 = ((m % 256 : Nat) : Int) := by omega
      rw [e1, e2]
      rw [digits_l0 ret k n (m / 256) false ([((m % 256 : Nat) : Int)] ++ l) (by omega) (by omega) (by rw [List.length_append]; simp only [List.length_cons, List.length_nil]; omega)]
      rw [hs, digs, List.append_assoc, if_neg (show ¬ m = 0 by omega), ite_self]
    · have : m = 0 := by omega
      subst this
      rw [bif_neg (by omega), nd_zero]; rfl

theorem digits_ok {m : Nat} (hm : m < 18446744073709551616) : F_bourneref02_digits ((m : Int), ()) = some (⟨decide (m = 0), digs (nd m) m⟩, ()) := by
  have h8 := nd_le hm
  refine ends_of (.from 20 fun k hk => ?_)
  unfold f_bourneref02_digits f_bourneref02_digits_b
  dsimp only
  rw [digits_l0 some k k m true [] (by omega) hm (by simp only [List.length_nil]; omega), List.append_nil]
  by_cases h : m = 0 <;> simp [h]

theorem rInt_l0 {Ω : Type} (ret : ByteArray × Unit → Option Ω) (k : Nat) (t : Sl Int) (ht : t.l.length ≤ 8) (hb : ∀ b ∈ t.l, 0 ≤ b ∧ b < 256) (c : Int) : ∀ (d n i : Nat) (nl : Bool), i + d = t.l.length → d < n →
    f_bourneref02_Int_l0 ret k n t (i : Int) ⟨nl, c :: (t.l.take i).map fun b => 255 - b⟩ = ret (strOf (c :: t.l.map fun b => 255 - b), ())
  | 0, n, i, nl, hi, hn => by
    obtain ⟨n, rfl⟩ : ∃ j, n = j + 1 := ⟨n - 1, by omega⟩
    simp only [f_bourneref02_Int_l0, f_bourneref02_Int_l0s]
    rw [bif_neg (by omega), List.take_of_length_le (by omega)]
  | d + 1, n, i, nl, hi, hn => by
    obtain ⟨n, rfl⟩ : ∃ j, n = j + 1 := ⟨n - 1, by omega⟩
    have hil : i < t.l.length := by omega
    have hbi := hb _ (List.getElem_mem hil)
    simp only [f_bourneref02_Int_l0, f_bourneref02_Int_l0s]
    rw [bif_pos (by omega), bif_in (by omega) (by omega), bif_room (by simp only [List.length_cons, List.length_map, List.length_take]; omega), Int.toNat_natCast, List.getD_eq_getElem?_getD, List.getElem?_eq_getElem hil, w64 (x := (i : Int) + 1) (by omega) (by omega)]
    have e1 : (i : Int) + 1 = ((i + 1 : Nat) : Int) := by omega
    rw [e1, ← rInt_l0 ret k t ht hb c d n (i + 1) (nl && false) (by omega) (by omega)]
    congr 2
    rw [List.take_succ_eq_append_getElem hil, List.map_append, Option.getD_some, wu8, Int.emod_eq_of_lt (by omega) (by omega)]
    rfl

theorem digs_bytes : ∀ (k m : Nat), ∀ b ∈ digs k m, 0 ≤ b ∧ b < 256
  | 0, _, b, h => by cases h
  | k + 1, m, b, h => by
    rcases List.mem_append.1 h with h | h
    · exact digs_bytes k _ b h
    · simp only [List.mem_cons, List.not_mem_nil, or_false] at h
      subst h; omega

theorem rInt_ok {n : Int} (h : Fits n) : F_bourneref02_Int (n, ()) = some (intB n, ()) := by
  unfold Fits at h
  refine ends_of (.from 20 fun k hk => ?_)
  unfold f_bourneref02_Int f_bourneref02_Int_b
  dsimp only
  by_cases hn : n < 0
  · have hm : (-(n + 1)) = (((-(n + 1)).toNat : Nat) : Int) := by omega
    have hlt : (-(n + 1)).toNat < 18446744073709551616 := by omega
    have hnd := nd_le hlt
    rw [bif_neg (by omega), w64 (x := n + 1) (by omega) (by omega), w64 (x := 0 - (n + 1)) (by omega) (by omega), wu64_in (by omega) (by omega), show 0 - (n + 1) = -(n + 1) by omega, hm, andK_some (digits_ok hlt)]
    dsimp only
    rw [digs_len, w64 (x := 127 - (nd (-(n + 1)).toNat : Int)) (by omega) (by omega), wu8]
    have := rInt_l0 some k ⟨decide ((-(n + 1)).toNat = 0), digs (nd (-(n + 1)).toNat) (-(n + 1)).toNat⟩ (by rw [digs_len]; exact hnd) (digs_bytes _ _) ((127 - (nd (-(n + 1)).toNat : Int)) % 256) (nd (-(n + 1)).toNat) k 0 false (by rw [digs_len]; omega) (by omega)
    rw [List.take_zero, List.map_nil] at this
    rw [show ((0 : Nat) : Int) = 0 from rfl] at this
    rw [this]
    unfold intB intL
    rw [if_neg (by omega), Int.emod_eq_of_lt (by omega) (by omega)]
  · have hm : IntKind.wrap .u64 n = ((n.toNat : Nat) : Int) := by rw [wu64]; omega
    have hlt : n.toNat < 18446744073709551616 := by omega
    have hnd := nd_le hlt
    rw [bif_pos (by omega), hm, andK_some (digits_ok hlt)]
    dsimp only
    rw [digs_len, bif_room (by omega), w64 (x := 128 + (nd n.toNat : Int)) (by omega) (by omega), wu8]
    unfold intB intL
    rw [if_pos (by omega), Int.emod_eq_of_lt (by omega) (by omega)]
    rfl

/-- numbers that are not negative -/
def numB (n : Int) : ByteArray := if n < 0 then ⟨#[]⟩ else intB n
theorem Num_ok {n : Int} (h : Fits n) : F_wire_Num (n, ()) = some (numB n, ()) := by
  unfold F_wire_Num f_wire_Num f_wire_Num_b numB
  dsimp only
  by_cases hn : n < 0
  · rw [bif_pos hn, if_pos hn]
  · rw [bif_neg hn, if_neg hn, andK_some (Int_ok h)]
theorem rNum_ok {n : Int} (h : Fits n) : F_bourneref02_Num (n, ()) = some (numB n, ()) := by
  unfold F_bourneref02_Num f_bourneref02_Num f_bourneref02_Num_b numB
  dsimp only
  by_cases hn : n < 0
  · rw [bif_pos hn, if_pos hn]
  · rw [bif_neg hn, if_neg hn, andK_some (rInt_ok h)]
theorem numB_size {n : Int} (h : Fits n) : (numB n).size ≤ 9 := by
  unfold numB; split
  · decide
  · exact intB_size h
end Go.Proofs.YtnebpmcmdmpoaaaDoor.R
