/- The digest: a block's compression, as both texts have it. -/
import Derived.Test.YtnebpmcmdmpoaaaDoorPDig2
import Derived.KernelRfl
namespace Go.Proofs.YtnebpmcmdmpoaaaDoor.R
open Go
set_option linter.unusedSimpArgs false
set_option linter.unusedVariables false
set_option maxRecDepth 10000

def first8 : List Int := [1779033703, 3144134277, 1013904242, 2773480762, 1359893119, 2600822924, 528734635, 1541459225]

/-- the state ahead of the rounds -/
def v0 (h : List Int) (e : Int) : List Int :=
  ((h ++ first8).set 12 (ixor .u32 1359893119 (e % 4294967296))).set 13 (ixor .u32 2600822924 (e / 4294967296 % 4294967296))
def v1 (h : List Int) (e : Int) (last : Bool) : List Int := bif last then (v0 h e).set 14 3766232660 else v0 h e
def fin8 (h v : List Int) : List Int := (List.range 8).map fun i => ixor .u32 (h.getD i 0) (ixor .u32 (v.getD i 0) (v.getD (i + 8) 0))
/-- a block compressed: e: the number of bytes up to its end -/
def comp (h m : List Int) (e : Int) (last : Bool) : List Int := fin8 h (rounds m 10 0 (v1 h e last))

theorem fin8_get (h v : List Int) (i : Nat) (hi : i < 8) : (fin8 h v).getD i 0 = ixor .u32 (h.getD i 0) (ixor .u32 (v.getD i 0) (v.getD (i + 8) 0)) := by
  unfold fin8
  rw [List.getD_eq_getElem?_getD, List.getElem?_map, List.getElem?_range hi]; rfl
theorem fin8_len (h v : List Int) : (fin8 h v).length = 8 := by simp [fin8]
theorem comp_len (h m : List Int) (e : Int) (last : Bool) : (comp h m e last).length = 8 := fin8_len _ _
theorem v0_len {h : List Int} (hh : h.length = 8) (e : Int) : (v0 h e).length = 16 := by simp [v0, hh, first8]
theorem v1_len {h : List Int} (hh : h.length = 8) (e : Int) (last : Bool) : (v1 h e last).length = 16 := by
  unfold v1; cases last <;> simp [v0_len hh]
theorem v14 {h : List Int} (hh : h.length = 8) (e : Int) : (v0 h e).getD 14 0 = 528734635 := by
  match h, hh with
  | [_, _, _, _, _, _, _, _], _ => rfl

/-! ### The program -/
section
variable {Ω : Type} (ret : T8 × Unit → Option Ω) (k : Nat)

/-- the four columns -/
theorem c_l1 (c3 : Int → List Int → List Int → List Int → Option Ω) (n : Nat) (r : Int) (h m v z : List Int) (hz : Pls z) (i : Nat) (hi : i < 4) :
    f_digest_compress_l1 ret k c3 (n + 1) r i h m v z = f_digest_compress_l1 ret k c3 n r ((i + 1 : Nat) : Int) h m (gi z m v (2 * i) (2 * i + 1) i (4 + i) (8 + i) (12 + i)) z := by
  have e : f_digest_compress_l1 ret k c3 (n + 1) r i h m v z = bif decide ((i : Int) < 4) then pG z m v (IntKind.wrap .i64 (2 * i)) (IntKind.wrap .i64 (IntKind.wrap .i64 (2 * i) + 1)) i (IntKind.wrap .i64 (4 + i)) (IntKind.wrap .i64 (8 + i)) (IntKind.wrap .i64 (12 + i)) (fun v => f_digest_compress_l1 ret k c3 n r (IntKind.wrap .i64 (i + 1)) h m v z) else f_digest_compress_l0 ret k c3 k r 0 h m v z := by kernel_rfl
  rw [e, bif_pos (by omega), w64 (x := 2 * (i : Int)) (by omega) (by omega), w64 (x := 2 * (i : Int) + 1) (by omega) (by omega), w64 (x := 4 + (i : Int)) (by omega) (by omega), w64 (x := 8 + (i : Int)) (by omega) (by omega), w64 (x := 12 + (i : Int)) (by omega) (by omega), w64 (x := (i : Int) + 1) (by omega) (by omega)]
  rw [show 2 * (i : Int) = ((2 * i : Nat) : Int) by omega, show ((2 * i : Nat) : Int) + 1 = ((2 * i + 1 : Nat) : Int) by omega, show 4 + (i : Int) = ((4 + i : Nat) : Int) by omega, show 8 + (i : Int) = ((8 + i : Nat) : Int) by omega, show 12 + (i : Int) = ((12 + i : Nat) : Int) by omega, show (i : Int) + 1 = ((i + 1 : Nat) : Int) by omega]
  rw [pG_ok hz (by omega) (by omega) (by omega) (by omega) (by omega) (by omega)]
  rfl
theorem c_l1_end (c3 : Int → List Int → List Int → List Int → Option Ω) (n : Nat) (r : Int) (h m v z : List Int) :
    f_digest_compress_l1 ret k c3 (n + 1) r 4 h m v z = f_digest_compress_l0 ret k c3 k r 0 h m v z := by
  simp only [f_digest_compress_l1, f_digest_compress_l1s]
  rw [bif_neg (by omega)]

/-- the four diagonals -/
theorem c_l0 (c3 : Int → List Int → List Int → List Int → Option Ω) (n : Nat) (r : Int) (h m v z : List Int) (hz : Pls z) (i : Nat) (hi : i < 4) :
    f_digest_compress_l0 ret k c3 (n + 1) r i h m v z = f_digest_compress_l0 ret k c3 n r ((i + 1 : Nat) : Int) h m (gi z m v (8 + 2 * i) (9 + 2 * i) i (4 + (i + 1) % 4) (8 + (i + 2) % 4) (12 + (i + 3) % 4)) z := by
  have e : f_digest_compress_l0 ret k c3 (n + 1) r i h m v z = bif decide ((i : Int) < 4) then pG z m v (IntKind.wrap .i64 (8 + IntKind.wrap .i64 (2 * i))) (IntKind.wrap .i64 (9 + IntKind.wrap .i64 (2 * i))) i (IntKind.wrap .i64 (4 + Int.tmod (IntKind.wrap .i64 (i + 1)) 4)) (IntKind.wrap .i64 (8 + Int.tmod (IntKind.wrap .i64 (i + 2)) 4)) (IntKind.wrap .i64 (12 + Int.tmod (IntKind.wrap .i64 (i + 3)) 4)) (fun v => f_digest_compress_l0 ret k c3 n r (IntKind.wrap .i64 (i + 1)) h m v z) else c3 (IntKind.wrap .i64 (r + 1)) h m v := by kernel_rfl
  rw [e, bif_pos (by omega), w64 (x := 2 * (i : Int)) (by omega) (by omega), w64 (x := (i : Int) + 1) (by omega) (by omega), w64 (x := (i : Int) + 2) (by omega) (by omega), w64 (x := (i : Int) + 3) (by omega) (by omega), tmod_pos (by omega), tmod_pos (by omega), tmod_pos (by omega), w64 (x := 8 + 2 * (i : Int)) (by omega) (by omega), w64 (x := 9 + 2 * (i : Int)) (by omega) (by omega), w64 (x := 4 + ((i : Int) + 1) % 4) (by omega) (by omega), w64 (x := 8 + ((i : Int) + 2) % 4) (by omega) (by omega), w64 (x := 12 + ((i : Int) + 3) % 4) (by omega) (by omega)]
  rw [show 8 + 2 * (i : Int) = ((8 + 2 * i : Nat) : Int) by omega, show 9 + 2 * (i : Int) = ((9 + 2 * i : Nat) : Int) by omega, show 4 + ((i : Int) + 1) % 4 = ((4 + (i + 1) % 4 : Nat) : Int) by omega, show 8 + ((i : Int) + 2) % 4 = ((8 + (i + 2) % 4 : Nat) : Int) by omega, show 12 + ((i : Int) + 3) % 4 = ((12 + (i + 3) % 4 : Nat) : Int) by omega, show (i : Int) + 1 = ((i + 1 : Nat) : Int) by omega]
  rw [pG_ok hz (by omega) (by omega) (by omega) (by omega) (by omega) (by omega)]
  rfl
theorem c_l0_end (c3 : Int → List Int → List Int → List Int → Option Ω) (n : Nat) (r : Int) (h m v z : List Int) :
    f_digest_compress_l0 ret k c3 (n + 1) r 4 h m v z = c3 (IntKind.wrap .i64 (r + 1)) h m v := by
  simp only [f_digest_compress_l0, f_digest_compress_l0s]
  rw [bif_neg (by omega)]

theorem c_round (c3 : Int → List Int → List Int → List Int → Option Ω) (hk : 5 ≤ k) (r : Int) (h m v z : List Int) (hz : Pls z) :
    f_digest_compress_l1 ret k c3 k r 0 h m v z = c3 (IntKind.wrap .i64 (r + 1)) h m (round m z v) := by
  obtain ⟨j, rfl⟩ : ∃ j, k = j + 5 := ⟨k - 5, by omega⟩
  have a0 := c_l1 ret (j + 5) c3 (j + 4) r h m v z hz 0 (by decide)
  have a1 := fun v => c_l1 ret (j + 5) c3 (j + 3) r h m v z hz 1 (by decide)
  have a2 := fun v => c_l1 ret (j + 5) c3 (j + 2) r h m v z hz 2 (by decide)
  have a3 := fun v => c_l1 ret (j + 5) c3 (j + 1) r h m v z hz 3 (by decide)
  have b0 := fun v => c_l0 ret (j + 5) c3 (j + 4) r h m v z hz 0 (by decide)
  have b1 := fun v => c_l0 ret (j + 5) c3 (j + 3) r h m v z hz 1 (by decide)
  have b2 := fun v => c_l0 ret (j + 5) c3 (j + 2) r h m v z hz 2 (by decide)
  have b3 := fun v => c_l0 ret (j + 5) c3 (j + 1) r h m v z hz 3 (by decide)
  rw [show ((0 : Nat) : Int) = 0 from rfl] at a0
  rw [a0]
  erw [a1, a2, a3, c_l1_end]
  rw [show (0 : Int) = ((0 : Nat) : Int) from rfl]
  erw [b0, b1, b2, b3, c_l0_end]
  rfl

theorem c_l2 (h v : List Int) (hh : h.length = 8) : ∀ (d n i : Nat) (g : List Int), i + d = 8 → d < n → g.length = 8 → (∀ j, j < 8 → g.getD j 0 = if j < i then (fin8 h v).getD j 0 else h.getD j 0) →
    f_digest_compress_l2 ret k n (i : Int) g v = ret (t8 (fin8 h v), ())
  | 0, n, i, g, hi, hn, hg, hj => by
    obtain ⟨n, rfl⟩ : ∃ m, n = m + 1 := ⟨n - 1, by omega⟩
    simp only [f_digest_compress_l2, f_digest_compress_l2s]
    rw [bif_neg (by omega), hj 0 (by decide), hj 1 (by decide), hj 2 (by decide), hj 3 (by decide), hj 4 (by decide), hj 5 (by decide), hj 6 (by decide), hj 7 (by decide), if_pos (by omega), if_pos (by omega), if_pos (by omega), if_pos (by omega), if_pos (by omega), if_pos (by omega), if_pos (by omega), if_pos (by omega)]
    rfl
  | d + 1, n, i, g, hi, hn, hg, hj => by
    obtain ⟨n, rfl⟩ : ∃ m, n = m + 1 := ⟨n - 1, by omega⟩
    simp only [f_digest_compress_l2, f_digest_compress_l2s]
    have hi8 : i < 8 := by omega
    rw [bif_pos (by omega), bif_in (by omega) (by omega), bif_in (by omega) (by omega), w64 (x := (i : Int) + 8) (by omega) (by omega), bif_in (by omega) (by omega), bif_in (by omega) (by omega), w64 (x := (i : Int) + 1) (by omega) (by omega), Int.toNat_natCast, show (i : Int) + 8 = ((i + 8 : Nat) : Int) by omega, Int.toNat_natCast, show (i : Int) + 1 = ((i + 1 : Nat) : Int) by omega, hj i hi8, if_neg (by omega)]
    refine c_l2 h v hh d n (i + 1) _ (by omega) (by omega) (by simp [hg]) fun j hj8 => ?_
    rw [List.getD_eq_getElem?_getD, List.getElem?_set]
    by_cases e : i = j
    · subst e
      rw [if_pos rfl, if_pos (by omega), if_pos (by omega)]
      rw [fin8_get h v i hi8]; rfl
    · rw [if_neg e, ← List.getD_eq_getElem?_getD, hj j hj8]
      by_cases hlt : j < i
      · rw [if_pos hlt, if_pos (by omega)]
      · rw [if_neg hlt, if_neg (by omega)]

/-- a row of sixteen as a tuple, and back -/
def r16 (x : T16) : List Int := [x.1, x.2.1, x.2.2.1, x.2.2.2.1, x.2.2.2.2.1, x.2.2.2.2.2.1, x.2.2.2.2.2.2.1, x.2.2.2.2.2.2.2.1, x.2.2.2.2.2.2.2.2.1, x.2.2.2.2.2.2.2.2.2.1, x.2.2.2.2.2.2.2.2.2.2.1, x.2.2.2.2.2.2.2.2.2.2.2.1, x.2.2.2.2.2.2.2.2.2.2.2.2.1, x.2.2.2.2.2.2.2.2.2.2.2.2.2.1, x.2.2.2.2.2.2.2.2.2.2.2.2.2.2.1, x.2.2.2.2.2.2.2.2.2.2.2.2.2.2.2.1]
def r8 (x : T8) : List Int := [x.1, x.2.1, x.2.2.1, x.2.2.2.1, x.2.2.2.2.1, x.2.2.2.2.2.1, x.2.2.2.2.2.2.1, x.2.2.2.2.2.2.2.1]
theorem r16_t16 (l : List Int) (h : l.length = 16) : r16 (t16 l) = l := tup16 l h
theorem r8_t8 (l : List Int) (h : l.length = 8) : r8 (t8 l) = l := tup8 l h

theorem orders_rows (i : Nat) (hi : i < 10) : r16 (([(0, 1, 2, 3, 4, 5, 6, 7, 8, 9, 10, 11, 12, 13, 14, 15, ()), (14, 10, 4, 8, 9, 15, 13, 6, 1, 12, 0, 2, 11, 7, 5, 3, ()), (11, 8, 12, 0, 5, 2, 15, 13, 10, 14, 3, 6, 7, 1, 9, 4, ()), (7, 9, 3, 1, 13, 12, 11, 14, 2, 6, 5, 10, 4, 0, 15, 8, ()), (9, 0, 5, 7, 2, 4, 10, 15, 14, 1, 11, 12, 6, 8, 3, 13, ()), (2, 12, 6, 10, 0, 11, 8, 3, 4, 13, 7, 5, 15, 14, 1, 9, ()), (12, 5, 1, 15, 14, 13, 4, 10, 0, 7, 6, 3, 9, 2, 8, 11, ()), (13, 11, 7, 14, 12, 1, 3, 9, 5, 0, 15, 4, 8, 6, 2, 10, ()), (6, 15, 14, 9, 11, 3, 0, 8, 12, 2, 13, 7, 1, 4, 10, 5, ()), (10, 2, 8, 4, 7, 6, 1, 5, 15, 11, 9, 14, 3, 12, 13, 0, ())] : List T16).getD i (Ty.zero (.pair (.int .u8) (.pair (.int .u8) (.pair (.int .u8) (.pair (.int .u8) (.pair (.int .u8) (.pair (.int .u8) (.pair (.int .u8) (.pair (.int .u8) (.pair (.int .u8) (.pair (.int .u8) (.pair (.int .u8) (.pair (.int .u8) (.pair (.int .u8) (.pair (.int .u8) (.pair (.int .u8) (.pair (.int .u8) .unit))))))))))))))))) ) = orders.getD i [] := by
  match i, hi with
  | 0, _ => rfl
  | 1, _ => rfl
  | 2, _ => rfl
  | 3, _ => rfl
  | 4, _ => rfl
  | 5, _ => rfl
  | 6, _ => rfl
  | 7, _ => rfl
  | 8, _ => rfl
  | 9, _ => rfl

theorem c_l3 (h m : List Int) (hh : h.length = 8) (hk : 10 ≤ k) : ∀ (d n i : Nat) (v : List Int), i + d = 10 → d < n →
    f_digest_compress_l3 ret k n (i : Int) h m v = ret (t8 (fin8 h (rounds m d i v)), ())
  | 0, n, i, v, hi, hn => by
    obtain ⟨n, rfl⟩ : ∃ m, n = m + 1 := ⟨n - 1, by omega⟩
    simp only [f_digest_compress_l3, f_digest_compress_l3s]
    rw [bif_neg (by omega)]
    exact c_l2 ret k h v hh 8 k 0 h (by omega) (by omega) hh fun j hj => by rw [if_neg (by omega)]
  | d + 1, n, i, v, hi, hn => by
    obtain ⟨n, rfl⟩ : ∃ m, n = m + 1 := ⟨n - 1, by omega⟩
    have e : f_digest_compress_l3 ret k (n + 1) (i : Int) h m v = bif decide ((i : Int) < 10) then bif inB (i : Int) 10 then f_digest_compress_l1 ret k (f_digest_compress_l3 ret k n) k (i : Int) 0 h m v (r16 (([(0, 1, 2, 3, 4, 5, 6, 7, 8, 9, 10, 11, 12, 13, 14, 15, ()), (14, 10, 4, 8, 9, 15, 13, 6, 1, 12, 0, 2, 11, 7, 5, 3, ()), (11, 8, 12, 0, 5, 2, 15, 13, 10, 14, 3, 6, 7, 1, 9, 4, ()), (7, 9, 3, 1, 13, 12, 11, 14, 2, 6, 5, 10, 4, 0, 15, 8, ()), (9, 0, 5, 7, 2, 4, 10, 15, 14, 1, 11, 12, 6, 8, 3, 13, ()), (2, 12, 6, 10, 0, 11, 8, 3, 4, 13, 7, 5, 15, 14, 1, 9, ()), (12, 5, 1, 15, 14, 13, 4, 10, 0, 7, 6, 3, 9, 2, 8, 11, ()), (13, 11, 7, 14, 12, 1, 3, 9, 5, 0, 15, 4, 8, 6, 2, 10, ()), (6, 15, 14, 9, 11, 3, 0, 8, 12, 2, 13, 7, 1, 4, 10, 5, ()), (10, 2, 8, 4, 7, 6, 1, 5, 15, 11, 9, 14, 3, 12, 13, 0, ())] : List T16).getD (Int.toNat (i : Int)) (Ty.zero (.pair (.int .u8) (.pair (.int .u8) (.pair (.int .u8) (.pair (.int .u8) (.pair (.int .u8) (.pair (.int .u8) (.pair (.int .u8) (.pair (.int .u8) (.pair (.int .u8) (.pair (.int .u8) (.pair (.int .u8) (.pair (.int .u8) (.pair (.int .u8) (.pair (.int .u8) (.pair (.int .u8) (.pair (.int .u8) .unit)))))))))))))))))) ) else none else f_digest_compress_l2 ret k k 0 h v := by kernel_rfl
    rw [e, bif_pos (by omega), bif_in (by omega) (by omega), Int.toNat_natCast, orders_rows i (by omega), c_round ret k _ (by omega) _ h m v _ (orders_ok i (by omega)), w64 (by omega) (by omega), show (i : Int) + 1 = ((i + 1 : Nat) : Int) by omega, c_l3 h m hh hk d n (i + 1) _ (by omega) (by omega)]
    rfl

theorem shr32 (e : Int) (h0 : 0 ≤ e) : IntKind.wrap .u32 (shr .i64 e 32) = e / 4294967296 % 4294967296 := by
  have := shr_i64 e 32 (by decide)
  rw [show ((32 : Nat) : Int) = 32 from rfl] at this
  rw [this, wu32]
  rfl

theorem compress_ok {h : List Int} (hh : h.length = 8) {s : ByteArray} (hs : s.size ≤ 64) {e : Int} (he0 : 0 ≤ e) (he : e < 9223372036854775808) (last : Bool) : F_digest_compress (t8 h, s, e, last, ()) = some (t8 (comp h (wordsM s.data.toList) e last), ()) := by
  refine ends_of (.from 20 fun k hk => ?_)
  have hw : (wordsM s.data.toList).length = 16 := by simp [wordsM]
  have hv : ∀ x : Int, (splice (splice [0, 0, 0, 0, 0, 0, 0, 0, 0, 0, 0, 0, 0, 0, 0, 0] 0 (((r8 (t8 h)).drop 0 |>.take 8).take 16)) 8 ((([1779033703, 3144134277, 1013904242, 2773480762, 1359893119, 2600822924, 528734635, 1541459225].take 8).drop 0).take 8)) = h ++ first8 := by
    intro _
    match h, hh with
    | [_, _, _, _, _, _, _, _], _ => rfl
  have hg : ∀ a b : Int, (((h ++ first8).set 12 (ixor .u32 1359893119 a)).set 13 (ixor .u32 2600822924 b)).getD 14 0 = 528734635 := by
    intro a b
    match h, hh with
    | [_, _, _, _, _, _, _, _], _ => rfl
  have hb : f_digest_compress some k (t8 h) s e last = andK (F_digest_words (s, ())) fun r =>
      bif last then f_digest_compress_l3 some k k 0 (r8 (t8 h)) (r16 r.1) ((((splice (splice [0, 0, 0, 0, 0, 0, 0, 0, 0, 0, 0, 0, 0, 0, 0, 0] 0 (((r8 (t8 h)).drop 0 |>.take 8).take 16)) 8 ((([1779033703, 3144134277, 1013904242, 2773480762, 1359893119, 2600822924, 528734635, 1541459225].take 8).drop 0).take 8)).set 12 (ixor .u32 1359893119 (IntKind.wrap .u32 e))).set 13 (ixor .u32 2600822924 (IntKind.wrap .u32 (shr .i64 e 32)))).set 14 (inot .u32 528734635))
      else f_digest_compress_l3 some k k 0 (r8 (t8 h)) (r16 r.1) (((splice (splice [0, 0, 0, 0, 0, 0, 0, 0, 0, 0, 0, 0, 0, 0, 0, 0] 0 (((r8 (t8 h)).drop 0 |>.take 8).take 16)) 8 ((([1779033703, 3144134277, 1013904242, 2773480762, 1359893119, 2600822924, 528734635, 1541459225].take 8).drop 0).take 8)).set 12 (ixor .u32 1359893119 (IntKind.wrap .u32 e))).set 13 (ixor .u32 2600822924 (IntKind.wrap .u32 (shr .i64 e 32)))) := by kernel_rfl
  show f_digest_compress some k (t8 h) s e last = _
  rw [hb, andK_some (words_ok hs)]
  dsimp only
  rw [hv 0, r8_t8 h hh, r16_t16 _ hw, shr32 e he0, wu32]
  have hn : inot .u32 528734635 = 3766232660 := by decide +kernel
  rw [hn]
  cases last
  · exact c_l3 some k h _ hh (by omega) 10 k 0 _ (by omega) (by omega)
  · exact c_l3 some k h _ hh (by omega) 10 k 0 _ (by omega) (by omega)
end
end Go.Proofs.YtnebpmcmdmpoaaaDoor.R
