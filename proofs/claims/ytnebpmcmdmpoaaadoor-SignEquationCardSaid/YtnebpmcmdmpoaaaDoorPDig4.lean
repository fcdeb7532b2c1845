/- The digest: the reference's block, the sums, the numbers made of them. -/
import Derived.Test.YtnebpmcmdmpoaaaDoorPDig3
import Derived.KernelRfl
namespace Go.Proofs.YtnebpmcmdmpoaaaDoor.R
open Go
set_option linter.unusedSimpArgs false
set_option linter.unusedVariables false
set_option maxRecDepth 10000

/-! ### The reference's block -/
section
variable {Ω : Type} (ret : Sl Int × Unit → Option Ω) (k : Nat)

theorem order_ok (i : Nat) (hi : i < 10) : F_bourneref03_order (i, ()) = some (⟨false, orders.getD i []⟩, ()) := by
  match i, hi with
  | 0, _ => rfl
  | 1, _ => rfl
  | 2, _ => rfl
  | 3, _ => rfl
  | 4, _ => rfl
  | 5, _ => rfl
  | 6, _ => rfl
  | 7, _ => rfl
  | 8, _ => rfl
  | 9, _ => rfl

theorem r_l0 (h v : List Int) (hh : h.length = 8) (hv : v.length = 16) (nh nv : Bool) : ∀ (d n i : Nat) (nl : Bool), i + d = 8 → d < n →
    f_bourneref03_compress_l0 ret k n ⟨nh, h⟩ (i : Int) ⟨nv, v⟩ ⟨nl, (fin8 h v).take i⟩ = ret (⟨if d = 0 then nl else false, fin8 h v⟩, ())
  | 0, n, i, nl, hi, hn => by
    obtain ⟨n, rfl⟩ : ∃ m, n = m + 1 := ⟨n - 1, by omega⟩
    simp only [f_bourneref03_compress_l0, f_bourneref03_compress_l0s]
    rw [bif_neg (by omega), List.take_of_length_le (by rw [fin8_len]; omega)]
    rfl
  | d + 1, n, i, nl, hi, hn => by
    obtain ⟨n, rfl⟩ : ∃ m, n = m + 1 := ⟨n - 1, by omega⟩
    have hi8 : i < 8 := by omega
    simp only [f_bourneref03_compress_l0, f_bourneref03_compress_l0s]
    rw [bif_pos (by omega), bif_in (by omega) (by omega), bif_in (by omega) (by omega), w64 (x := (i : Int) + 8) (by omega) (by omega), bif_in (by omega) (by omega), bif_room (by rw [List.length_take, fin8_len]; omega), w64 (x := (i : Int) + 1) (by omega) (by omega), Int.toNat_natCast, show (i : Int) + 8 = ((i + 8 : Nat) : Int) by omega, Int.toNat_natCast, show (i : Int) + 1 = ((i + 1 : Nat) : Int) by omega]
    have ht : (fin8 h v).take i ++ [ixor .u32 (ixor .u32 (h.getD i 0) (v.getD i 0)) (v.getD (i + 8) 0)] = (fin8 h v).take (i + 1) := by
      have hil : i < (fin8 h v).length := by rw [fin8_len]; exact hi8
      have e := fin8_get h v i hi8
      rw [List.getD_eq_getElem?_getD, List.getElem?_eq_getElem hil, Option.getD_some] at e
      rw [List.take_succ_eq_append_getElem hil, e, ixor_assoc32]
    rw [ht, r_l0 h v hh hv nh nv d n (i + 1) _ (by omega) (by omega)]
    simp

theorem r_round (h m v : List Int) (hm : m.length = 16) (hv : v.length = 16) (nh nm nv : Bool) (n r : Nat) (hr : r < 10) :
    f_bourneref03_compress_l1 ret k (n + 1) ⟨nh, h⟩ (r : Int) ⟨nm, m⟩ ⟨nv, v⟩ = f_bourneref03_compress_l1 ret k n ⟨nh, h⟩ ((r + 1 : Nat) : Int) ⟨nm, m⟩ ⟨nv, round m (orders.getD r []) v⟩ := by
  have e : f_bourneref03_compress_l1 ret k (n + 1) ⟨nh, h⟩ (r : Int) ⟨nm, m⟩ ⟨nv, v⟩ = bif decide ((r : Int) < 10) then andK (F_bourneref03_order ((r : Int), ())) fun z =>
      qG z.1.l m v 0 1 0 4 8 12 fun v => qG z.1.l m v 2 3 1 5 9 13 fun v => qG z.1.l m v 4 5 2 6 10 14 fun v => qG z.1.l m v 6 7 3 7 11 15 fun v => qG z.1.l m v 8 9 0 5 10 15 fun v => qG z.1.l m v 10 11 1 6 11 12 fun v => qG z.1.l m v 12 13 2 7 8 13 fun v => qG z.1.l m v 14 15 3 4 9 14 fun v =>
      f_bourneref03_compress_l1 ret k n ⟨nh, h⟩ (IntKind.wrap .i64 (r + 1)) ⟨nm, m⟩ ⟨nv, v⟩ else f_bourneref03_compress_l0 ret k k ⟨nh, h⟩ 0 ⟨nv, v⟩ ⟨true, []⟩ := by kernel_rfl
  have hz := orders_ok r hr
  rw [e, bif_pos (by omega), andK_some (order_ok r hr), w64 (x := (r : Int) + 1) (by omega) (by omega), show (r : Int) + 1 = ((r + 1 : Nat) : Int) by omega]
  dsimp only
  generalize orders.getD r [] = z at hz
  rw [qG_ok hz hm hv (by decide) (by decide) (by decide) (by decide) (by decide) (by decide)]
  have g : ∀ i j a b c d, (gi z m v i j a b c d).length = 16 := fun i j a b c d => (gi_len z m v i j a b c d).trans hv
  have step : ∀ (w : List Int) (hw : w.length = 16) (i j a b c d : Nat) (hi : i < 16) (hj : j < 16) (ha : a < 16) (hb : b < 16) (hc : c < 16) (hd : d < 16) (K : List Int → Option Ω), qG z m w i j a b c d K = K (gi z m w i j a b c d) :=
    fun w hw i j a b c d hi hj ha hb hc hd K => qG_ok hz hm hw hi hj ha hb hc hd K
  have l1 : (gi z m v 0 1 0 4 8 12).length = 16 := (gi_len ..).trans hv
  have l2 : (gi z m (gi z m v 0 1 0 4 8 12) 2 3 1 5 9 13).length = 16 := (gi_len ..).trans l1
  have l3 : (gi z m (gi z m (gi z m v 0 1 0 4 8 12) 2 3 1 5 9 13) 4 5 2 6 10 14).length = 16 := (gi_len ..).trans l2
  have l4 : (gi z m (gi z m (gi z m (gi z m v 0 1 0 4 8 12) 2 3 1 5 9 13) 4 5 2 6 10 14) 6 7 3 7 11 15).length = 16 := (gi_len ..).trans l3
  have l5 : (gi z m (gi z m (gi z m (gi z m (gi z m v 0 1 0 4 8 12) 2 3 1 5 9 13) 4 5 2 6 10 14) 6 7 3 7 11 15) 8 9 0 5 10 15).length = 16 := (gi_len ..).trans l4
  have l6 : (gi z m (gi z m (gi z m (gi z m (gi z m (gi z m v 0 1 0 4 8 12) 2 3 1 5 9 13) 4 5 2 6 10 14) 6 7 3 7 11 15) 8 9 0 5 10 15) 10 11 1 6 11 12).length = 16 := (gi_len ..).trans l5
  have l7 : (gi z m (gi z m (gi z m (gi z m (gi z m (gi z m (gi z m v 0 1 0 4 8 12) 2 3 1 5 9 13) 4 5 2 6 10 14) 6 7 3 7 11 15) 8 9 0 5 10 15) 10 11 1 6 11 12) 12 13 2 7 8 13).length = 16 := (gi_len ..).trans l6
  show qG z m (gi z m v 0 1 0 4 8 12) 2 3 1 5 9 13 _ = _
  rw [step _ l1 2 3 1 5 9 13 (by decide) (by decide) (by decide) (by decide) (by decide) (by decide),
    step _ l2 4 5 2 6 10 14 (by decide) (by decide) (by decide) (by decide) (by decide) (by decide),
    step _ l3 6 7 3 7 11 15 (by decide) (by decide) (by decide) (by decide) (by decide) (by decide),
    step _ l4 8 9 0 5 10 15 (by decide) (by decide) (by decide) (by decide) (by decide) (by decide),
    step _ l5 10 11 1 6 11 12 (by decide) (by decide) (by decide) (by decide) (by decide) (by decide),
    step _ l6 12 13 2 7 8 13 (by decide) (by decide) (by decide) (by decide) (by decide) (by decide),
    step _ l7 14 15 3 4 9 14 (by decide) (by decide) (by decide) (by decide) (by decide) (by decide)]
  rfl

theorem r_l1 (h m : List Int) (hh : h.length = 8) (hm : m.length = 16) (nh nm nv : Bool) (hk : 10 ≤ k) : ∀ (d n r : Nat) (v : List Int), v.length = 16 → r + d = 10 → d < n →
    f_bourneref03_compress_l1 ret k n ⟨nh, h⟩ (r : Int) ⟨nm, m⟩ ⟨nv, v⟩ = ret (⟨false, fin8 h (rounds m d r v)⟩, ())
  | 0, n, r, v, hv, hr, hn => by
    obtain ⟨n, rfl⟩ : ∃ m, n = m + 1 := ⟨n - 1, by omega⟩
    simp only [f_bourneref03_compress_l1, f_bourneref03_compress_l1s]
    rw [bif_neg (by omega)]
    exact r_l0 ret k h v hh hv nh nv 8 k 0 true (by omega) (by omega)
  | d + 1, n, r, v, hv, hr, hn => by
    obtain ⟨n, rfl⟩ : ∃ m, n = m + 1 := ⟨n - 1, by omega⟩
    rw [r_round ret k h m v hm hv nh nm nv n r (by omega)]
    exact r_l1 h m hh hm nh nm nv hk d n (r + 1) _ ((round_len ..).trans hv) (by omega) (by omega)

theorem wordsM_len (l : List UInt8) : (wordsM l).length = 16 := by simp [wordsM]
theorem wordsM_get (l : List UInt8) (i : Nat) (hi : i < 16) : (wordsM l)[i]'(by rw [wordsM_len]; exact hi) = wordM l i := by simp [wordsM]

/-- the end of the block that begins at a place, and whether it is the last one -/
def endM (n at_ : Nat) : Int := if (n : Int) < (at_ : Int) + 64 then n else (at_ : Int) + 64

theorem r_l2 (h : List Int) (hh : h.length = 8) (nh : Bool) (s : ByteArray) (hs : s.size ≤ 900000) (at_ : Nat) (hat : at_ ≤ s.size) (hk : 20 ≤ k) : ∀ (d n i : Nat) (nl : Bool), i + d = 16 → d < n →
    f_bourneref03_compress_l2 ret k n ⟨nh, h⟩ s (at_ : Int) (i : Int) ⟨nl, (wordsM (s.data.toList.drop at_)).take i⟩ = ret (⟨false, comp h (wordsM (s.data.toList.drop at_)) (endM s.size at_) (endM s.size at_ == (s.size : Int))⟩, ())
  | 0, n, i, nl, hi, hn => by
    obtain ⟨n, rfl⟩ : ∃ m, n = m + 1 := ⟨n - 1, by omega⟩
    simp only [f_bourneref03_compress_l2, f_bourneref03_compress_l2s]
    have hx : ∀ a b : Int, ((h ++ first8).set 12 a).getD 13 0 = 2600822924 ∧ (h ++ first8).getD 12 0 = 1359893119 ∧ (((h ++ first8).set 12 a).set 13 b).getD 14 0 = 528734635 := by
      intro a b
      match h, hh with
      | [_, _, _, _, _, _, _, _], _ => exact ⟨rfl, rfl, rfl⟩
    have hl : (h ++ first8).length = 16 := by simp [hh, first8]
    have he : endM s.size at_ = if (s.size : Int) < (at_ : Int) + 64 then (s.size : Int) else (at_ : Int) + 64 := rfl
    have he0 : 0 ≤ endM s.size at_ ∧ endM s.size at_ ≤ 1000000 := by rw [he]; split <;> omega
    rw [bif_neg (by omega), bif_room (by omega), List.nil_append, bif_room (by omega), List.take_of_length_le (by rw [wordsM_len]; omega), w64 (x := (at_ : Int) + 64) (by omega) (by omega), ← he]
    rw [show h ++ [1779033703, 3144134277, 1013904242, 2773480762, 1359893119, 2600822924, 528734635, 1541459225] = h ++ first8 from rfl]
    simp only [List.length_set, hl]
    rw [(hx 0 0).2.1, (hx _ 0).1, (hx _ _).2.2, tmod_pos he0.1, tdiv_pos he0.1, wu32, wu32, w64 (x := endM s.size at_ / 4294967296) (by omega) (by omega), Int.emod_emod]
    rw [bif_in (by omega) (by omega), bif_in (by omega) (by omega), bif_in (by omega) (by omega), bif_in (by omega) (by omega)]
    cases hb : (endM s.size at_ == (s.size : Int)) with
    | false =>
      rw [cond_false]
      exact r_l1 ret k h _ hh (wordsM_len _) nh nl false (by omega) 10 k 0 _ (by simp [hl]) (by omega) (by omega)
    | true =>
      rw [cond_true, bif_in (by omega) (by omega), bif_in (by omega) (by omega), wu32]
      exact r_l1 ret k h _ hh (wordsM_len _) nh nl false (by omega) 10 k 0 _ (by simp [hl]) (by omega) (by omega)
  | d + 1, n, i, nl, hi, hn => by
    obtain ⟨n, rfl⟩ : ∃ m, n = m + 1 := ⟨n - 1, by omega⟩
    simp only [f_bourneref03_compress_l2, f_bourneref03_compress_l2s]
    rw [bif_pos (by omega), w64 (x := 4 * (i : Int)) (by omega) (by omega), w64 (x := (at_ : Int) + 4 * (i : Int)) (by omega) (by omega), show (at_ : Int) + 4 * (i : Int) = ((at_ + 4 * i : Nat) : Int) by omega, andK_some (word_ok (by omega) at_ i (by omega)), bif_room (by rw [List.length_take, wordsM_len]; omega), w64 (x := (i : Int) + 1) (by omega) (by omega), show (i : Int) + 1 = ((i + 1 : Nat) : Int) by omega]
    dsimp only
    have hil : i < (wordsM (s.data.toList.drop at_)).length := by rw [wordsM_len]; omega
    have ht : (wordsM (s.data.toList.drop at_)).take i ++ [wordM (s.data.toList.drop at_) i] = (wordsM (s.data.toList.drop at_)).take (i + 1) := by
      rw [List.take_succ_eq_append_getElem hil, wordsM_get _ i (by omega)]
    rw [ht]
    exact r_l2 h hh nh s hs at_ hat hk d n (i + 1) _ (by omega) (by omega)
end

theorem rcompress_ok {h : List Int} (hh : h.length = 8) (nh : Bool) {s : ByteArray} (hs : s.size ≤ 900000) {at_ : Nat} (hat : at_ ≤ s.size) :
    F_bourneref03_compress (⟨nh, h⟩, s, (at_ : Int), ()) = some (⟨false, comp h (wordsM (s.data.toList.drop at_)) (endM s.size at_) (endM s.size at_ == (s.size : Int))⟩, ()) := by
  refine ends_of (.from 20 fun k hk => ?_)
  have := r_l2 some k h hh nh s hs at_ hat hk 16 k 0 true (by omega) (by omega)
  exact this

/-! ### Sums -/

/-- the state behind all blocks: l: what is left, e: the bytes ahead of it -/
def sumGo : Nat → List Int → List UInt8 → Nat → List Int
  | 0, h, _, _ => h
  | n + 1, h, l, e => if 64 < l.length then sumGo n (comp h (wordsM (l.take 64)) ((e + 64 : Nat) : Int) false) (l.drop 64) (e + 64) else comp h (wordsM l) ((e + l.length : Nat) : Int) true
def first0 : List Int := [1795745351, 3144134277, 1013904242, 2773480762, 1359893119, 2600822924, 528734635, 1541459225]
def stateOf (l : List UInt8) : List Int := sumGo (l.length + 1) first0 l 0
/-- four bytes of a word, the least first -/
def outW (x : Int) : List Int := [x % 256, x / 256 % 256, x / 65536 % 256, x / 16777216 % 256]
def sumL (l : List UInt8) : List Int := (stateOf l).flatMap outW
/-- the digest -/
def sumB (s : ByteArray) : ByteArray := strOf (sumL s.data.toList)

theorem wordsM_take (l : List UInt8) : wordsM (l.take 64) = wordsM l := by
  unfold wordsM
  apply List.map_congr_left
  intro j hj
  have hj := List.mem_range.1 hj
  unfold wordM
  simp only [by_take]
  rw [if_pos (by omega), if_pos (by omega), if_pos (by omega), if_pos (by omega)]

def B32 (h : List Int) : Prop := h.length = 8 ∧ ∀ i, i < 8 → 0 ≤ h.getD i 0 ∧ h.getD i 0 < 4294967296
theorem comp_b32 (h m : List Int) (e : Int) (last : Bool) : B32 (comp h m e last) :=
  ⟨comp_len _ _ _ _, fun i hi => by unfold comp; rw [fin8_get _ _ _ hi]; exact ixor32_b _ _⟩
theorem sumGo_b32 : ∀ (n : Nat) (h : List Int) (l : List UInt8) (e : Nat), B32 h → B32 (sumGo n h l e)
  | 0, _, _, _, hb => hb
  | n + 1, h, l, e, hb => by
    unfold sumGo
    split
    · exact sumGo_b32 n _ _ _ (comp_b32 _ _ _ _)
    · exact comp_b32 _ _ _ _
theorem first0_b32 : B32 first0 := ⟨rfl, by decide⟩
theorem stateOf_b32 (l : List UInt8) : B32 (stateOf l) := sumGo_b32 _ _ _ _ first0_b32
theorem sumGo_fuel : ∀ (n m : Nat) (h : List Int) (l : List UInt8) (e : Nat), l.length < n → l.length < m → sumGo n h l e = sumGo m h l e
  | 0, _, _, _, _, h, _ => by omega
  | n + 1, 0, _, _, _, _, h => by omega
  | n + 1, m + 1, h, l, e, h1, h2 => by
    unfold sumGo
    split
    · exact sumGo_fuel n m _ _ _ (by rw [List.length_drop]; omega) (by rw [List.length_drop]; omega)
    · rfl

theorem ex_toList (s : ByteArray) (i j : Nat) : (s.extract i j).data.toList = (s.data.toList.take j).drop i := by
  simp [List.drop_take]

theorem outW_u32 {x : Int} (h0 : 0 ≤ x) (h1 : x < 4294967296) : [IntKind.wrap .u8 (shr .u32 x 0), IntKind.wrap .u8 (shr .u32 x 8), IntKind.wrap .u8 (shr .u32 x 16), IntKind.wrap .u8 (shr .u32 x 24)] = outW x := by
  have e : ∀ s : Nat, s ≤ 32 → shr .u32 x (s : Int) = x / 2 ^ s := fun s hs => shr_nat .u32 x s hs
  have e0 := e 0 (by decide); have e8 := e 8 (by decide); have e16 := e 16 (by decide); have e24 := e 24 (by decide)
  rw [show ((0 : Nat) : Int) = 0 from rfl] at e0
  rw [show ((8 : Nat) : Int) = 8 from rfl] at e8
  rw [show ((16 : Nat) : Int) = 16 from rfl] at e16
  rw [show ((24 : Nat) : Int) = 24 from rfl] at e24
  rw [e0, e8, e16, e24, wu8, wu8, wu8, wu8]
  unfold outW
  congr 1
  omega

/-- what is written at the end -/
def out8 (x : T8) : List Int := [IntKind.wrap .u8 (shr .u32 x.1 0), IntKind.wrap .u8 (shr .u32 x.1 8), IntKind.wrap .u8 (shr .u32 x.1 16), IntKind.wrap .u8 (shr .u32 x.1 24), IntKind.wrap .u8 (shr .u32 x.2.1 0), IntKind.wrap .u8 (shr .u32 x.2.1 8), IntKind.wrap .u8 (shr .u32 x.2.1 16), IntKind.wrap .u8 (shr .u32 x.2.1 24), IntKind.wrap .u8 (shr .u32 x.2.2.1 0), IntKind.wrap .u8 (shr .u32 x.2.2.1 8), IntKind.wrap .u8 (shr .u32 x.2.2.1 16), IntKind.wrap .u8 (shr .u32 x.2.2.1 24), IntKind.wrap .u8 (shr .u32 x.2.2.2.1 0), IntKind.wrap .u8 (shr .u32 x.2.2.2.1 8), IntKind.wrap .u8 (shr .u32 x.2.2.2.1 16), IntKind.wrap .u8 (shr .u32 x.2.2.2.1 24), IntKind.wrap .u8 (shr .u32 x.2.2.2.2.1 0), IntKind.wrap .u8 (shr .u32 x.2.2.2.2.1 8), IntKind.wrap .u8 (shr .u32 x.2.2.2.2.1 16), IntKind.wrap .u8 (shr .u32 x.2.2.2.2.1 24), IntKind.wrap .u8 (shr .u32 x.2.2.2.2.2.1 0), IntKind.wrap .u8 (shr .u32 x.2.2.2.2.2.1 8), IntKind.wrap .u8 (shr .u32 x.2.2.2.2.2.1 16), IntKind.wrap .u8 (shr .u32 x.2.2.2.2.2.1 24), IntKind.wrap .u8 (shr .u32 x.2.2.2.2.2.2.1 0), IntKind.wrap .u8 (shr .u32 x.2.2.2.2.2.2.1 8), IntKind.wrap .u8 (shr .u32 x.2.2.2.2.2.2.1 16), IntKind.wrap .u8 (shr .u32 x.2.2.2.2.2.2.1 24), IntKind.wrap .u8 (shr .u32 x.2.2.2.2.2.2.2.1 0), IntKind.wrap .u8 (shr .u32 x.2.2.2.2.2.2.2.1 8), IntKind.wrap .u8 (shr .u32 x.2.2.2.2.2.2.2.1 16), IntKind.wrap .u8 (shr .u32 x.2.2.2.2.2.2.2.1 24)]

theorem out8_ok {h : List Int} (hb : B32 h) : out8 (t8 h) = h.flatMap outW := by
  have e : out8 (t8 h) = outW (h.getD 0 0) ++ (outW (h.getD 1 0) ++ (outW (h.getD 2 0) ++ (outW (h.getD 3 0) ++ (outW (h.getD 4 0) ++ (outW (h.getD 5 0) ++ (outW (h.getD 6 0) ++ outW (h.getD 7 0))))))) := by
    rw [← outW_u32 (hb.2 0 (by decide)).1 (hb.2 0 (by decide)).2, ← outW_u32 (hb.2 1 (by decide)).1 (hb.2 1 (by decide)).2, ← outW_u32 (hb.2 2 (by decide)).1 (hb.2 2 (by decide)).2, ← outW_u32 (hb.2 3 (by decide)).1 (hb.2 3 (by decide)).2,
      ← outW_u32 (hb.2 4 (by decide)).1 (hb.2 4 (by decide)).2, ← outW_u32 (hb.2 5 (by decide)).1 (hb.2 5 (by decide)).2, ← outW_u32 (hb.2 6 (by decide)).1 (hb.2 6 (by decide)).2, ← outW_u32 (hb.2 7 (by decide)).1 (hb.2 7 (by decide)).2]
    rfl
  rw [e]
  conv => rhs; rw [← tup8 h hb.1]
  simp only [List.flatMap_cons, List.flatMap_nil, List.append_nil]

noncomputable def rooms {Ω : Type} (x : Option Ω) : Nat → Nat → Option Ω
  | 0, _ => x
  | d + 1, i => bif room ((i : Int) + 1) 1 then rooms x d (i + 1) else none
theorem rooms_ok {Ω : Type} (x : Option Ω) : ∀ d i : Nat, d + i ≤ 100 → rooms x d i = x
  | 0, _, _ => rfl
  | d + 1, i, h => by rw [rooms, bif_room (by omega), rooms_ok x d (i + 1) (by omega)]

theorem s_l0 {Ω : Type} (ret : ByteArray × Unit → Option Ω) (k : Nat) : ∀ (n : Nat) (s : ByteArray) (e : Nat) (h : List Int), s.size < n → s.size + e ≤ 1000000 → B32 h →
    f_digest_Sum_l0 ret k n s (e : Int) h = ret (strOf ((sumGo n h s.data.toList e).flatMap outW), ())
  | 0, s, e, h, hn, _, _ => by omega
  | n + 1, s, e, h, hn, he, hb => by
    have hbody : f_digest_Sum_l0 ret k (n + 1) s (e : Int) h = bif decide ((s.size : Int) > 64) then
        bif inS 0 64 (s.size : Int) then andK (F_digest_compress (t8 h, s.extract 0 64, IntKind.wrap .i64 (e + 64), false, ())) fun r =>
          bif inS 64 (s.size : Int) (s.size : Int) then f_digest_Sum_l0 ret k n (s.extract 64 (Int.toNat (s.size : Int))) (IntKind.wrap .i64 (e + 64)) (r8 r.1) else none else none
      else andK (F_digest_compress (t8 h, s, IntKind.wrap .i64 (e + s.size), true, ())) fun r => bif room 1 1 then rooms (ret (strOf (out8 r.1), ())) 31 1 else none := by kernel_rfl
    rw [hbody]
    by_cases hc : (s.size : Int) > 64
    · have hsz : (s.extract 0 64).size ≤ 64 := by rw [size_eq, ex_toList]; simp; omega
      rw [bif_pos hc, bif_is (by omega) (by omega) (by omega), w64 (x := (e : Int) + 64) (by omega) (by omega), andK_some (compress_ok hb.1 hsz (by omega) (by omega) false), bif_is (by omega) (by omega) (by omega), Int.toNat_natCast]
      dsimp only
      rw [r8_t8 _ (comp_len _ _ _ _), show (e : Int) + 64 = ((e + 64 : Nat) : Int) by omega]
      have hsz2 : (s.extract 64 s.size).size + 64 = s.size := by rw [size_eq (s.extract 64 s.size), ex_toList]; simp only [List.length_drop, List.length_take, ← size_eq]; omega
      rw [s_l0 ret k n _ (e + 64) _ (by omega) (by omega) (comp_b32 _ _ _ _)]
      have el : (s.extract 64 s.size).data.toList = s.data.toList.drop 64 := by rw [ex_toList, List.take_of_length_le (by rw [size_eq]; exact Nat.le_refl _)]
      have el0 : (s.extract 0 64).data.toList = s.data.toList.take 64 := by rw [ex_toList, List.drop_zero]
      rw [el, el0, sumGo, if_pos (by rw [← size_eq]; omega)]
    · rw [bif_neg hc, w64 (x := (e : Int) + (s.size : Int)) (by omega) (by omega), andK_some (compress_ok hb.1 (by omega) (by omega) (by omega) true), bif_room (by omega), rooms_ok _ _ _ (by omega)]
      dsimp only
      rw [out8_ok (comp_b32 _ _ _ _), sumGo, if_neg (by rw [← size_eq]; omega), ← size_eq, show (e : Int) + (s.size : Int) = ((e + s.size : Nat) : Int) by omega]

theorem Sum_ok {s : ByteArray} (hs : s.size ≤ 900000) : F_digest_Sum (s, ()) = some (sumB s, ()) := by
  refine ends_of (.from (s.size + 1) fun k hk => ?_)
  have := s_l0 some k k s 0 first0 (by omega) (by omega) first0_b32
  rw [sumGo_fuel k (s.data.toList.length + 1) _ _ _ (by rw [← size_eq]; omega) (by omega)] at this
  exact this
end Go.Proofs.YtnebpmcmdmpoaaaDoor.R
