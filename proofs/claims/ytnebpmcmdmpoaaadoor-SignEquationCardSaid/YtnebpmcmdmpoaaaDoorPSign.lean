/- Signatures: the program's and the reference's functions as numbers. -/
import Derived.Test.YtnebpmcmdmpoaaaDoorPGroup
import Derived.Test.YtnebpmcmdmpoaaaDoorPDig5
namespace Go.Proofs.YtnebpmcmdmpoaaaDoor.R
open Go
set_option linter.unusedSimpArgs false
set_option linter.unusedVariables false
set_option maxRecDepth 10000

/-- texts one after the other -/
def cat (l : List ByteArray) : ByteArray := ⟨(l.flatMap fun s : ByteArray => s.data.toList).toArray⟩
theorem cat_size (l : List ByteArray) : (cat l).size = (l.map ByteArray.size).sum := by
  unfold cat
  rw [ba_size]
  induction l with
  | nil => rfl
  | cons a r ih => rw [List.flatMap_cons, List.length_append, ih, List.map_cons, List.sum_cons, size_eq]

theorem join_empty : ∀ l : List (List UInt8), Lib.join l [] = l.flatten
  | [] => rfl
  | [a] => by rw [Lib.join_one]; simp
  | a :: b :: r => by
    have := join_empty (b :: r)
    rw [Lib.join_cons] at this ⊢
    rw [List.flatten_cons, ← this]
    simp [Lib.joinTail]

theorem hash_ok (nl : Bool) (l : List ByteArray) (hl : l.length ≤ 100) (hs : (cat l).size ≤ 900000) : F_sign_hash (⟨nl, l⟩, ()) = some (shortM (cat l), ()) := by
  have hj : Lib.join (l.map fun x : ByteArray => x.data.toList) (⟨#[]⟩ : ByteArray).data.toList = l.flatMap fun s : ByteArray => s.data.toList := by
    rw [show (⟨#[]⟩ : ByteArray).data.toList = [] from rfl, join_empty, List.flatMap_def]
  have hlen : (l.flatMap fun s : ByteArray => s.data.toList).length = (cat l).size := by unfold cat; rw [ba_size]
  have hJ : F_strings_Join (⟨nl, l⟩, ⟨#[]⟩, ()) = some (cat l, ()) := by
    unfold F_strings_Join
    dsimp only
    rw [hj, if_pos ⟨by omega, by omega⟩]
    rfl
  unfold F_sign_hash f_sign_hash f_sign_hash_b
  dsimp only
  rw [andK_some hJ, andK_some (Short_ok hs)]

/-! ### What the functions answer -/

abbrev tKey : ByteArray := ⟨#[107, 101, 121]⟩
abbrev tNonce : ByteArray := ⟨#[110, 111, 110, 99, 101]⟩
abbrev tSign : ByteArray := ⟨#[115, 105, 103, 110]⟩

def secM (l : List ByteArray) : Int := 1 + shortM (cat l) % 1152921504606845788
def ofM (n : Int) : Int × Int := if 1 ≤ n ∧ n < QQ then (n, gx 4 n.toNat) else (0, 0)
def keyM (seed : ByteArray) : Int × Int := ofM (secM [textB tKey, textB seed])
def rightM (k : Int × Int) : Bool := decide (0 < k.1) && decide (k = ofM k.1)
def chalL (r p : Int) (c m : ByteArray) : List ByteArray := [textB tSign, numB r, numB p, textB c, textB m]
def chalM (r p : Int) (c m : ByteArray) : Int := shortM (cat (chalL r p c m)) % QQ
def nonceL (n : Int) (c m : ByteArray) : List ByteArray := [textB tNonce, numB n, textB c, textB m]
def nonceM (n : Int) (c m : ByteArray) : Int := secM (nonceL n c m)
def signM (k : Int × Int) (c m : ByteArray) : Int × Int :=
  if rightM k then (chalM (gx 4 (nonceM k.1 c m).toNat) k.2 c m, (nonceM k.1 c m + chalM (gx 4 (nonceM k.1 c m).toNat) k.2 c m * k.1 % QQ) % QQ) else (0, 0)
def elemM (p : Int) (s : Int × Int) : Int := gx 4 s.2.toNat * gx p (QQ - s.1).toNat % PP
def rangesM (p : Int) (s : Int × Int) : Bool := decide (p ≠ 1) && (inM p && decide (0 ≤ s.1 ∧ s.1 < QQ ∧ 0 ≤ s.2 ∧ s.2 < QQ))
def verM (p : Int) (c m : ByteArray) (s : Int × Int) : Bool := rangesM p s && decide (chalM (elemM p s) p c m = s.1)

theorem secM_b (l : List ByteArray) : 1 ≤ secM l ∧ secM l < QQ := by
  have h := (shortM_b (cat l)).1
  unfold secM
  have hq : QQ = 1152921504606845789 := rfl
  omega
theorem chalM_b (r p : Int) (c m : ByteArray) : 0 ≤ chalM r p c m ∧ chalM r p c m < QQ := by
  exact emod_b _ (by decide)
theorem fits_of {x : Int} (h0 : -9223372036854775808 ≤ x) (h1 : x ≤ 9223372036854775807) : Fits x := ⟨h0, h1⟩
theorem gx_fits (a : Int) (e : Nat) : Fits (gx a e) := by
  have := gx_bounds a e
  have hp : PP = 2305843009213691579 := rfl
  exact ⟨by omega, by omega⟩
theorem chal_fits (r p : Int) (c m : ByteArray) : Fits (chalM r p c m) := by
  have := chalM_b r p c m
  have hq : QQ = 1152921504606845789 := rfl
  exact ⟨by omega, by omega⟩
theorem sec_fits (l : List ByteArray) : Fits (secM l) := by
  have := secM_b l
  have hq : QQ = 1152921504606845789 := rfl
  exact ⟨by omega, by omega⟩
theorem four_fits : Fits 4 := ⟨by decide, by decide⟩
theorem expo_nn {e : Int} (h : 0 ≤ e) : expo e = e.toNat := by unfold expo; rw [if_neg (by omega)]
theorem elem_fits (p : Int) (s : Int × Int) : Fits (elemM p s) := by
  have := emod_b (gx 4 s.2.toNat * gx p (QQ - s.1).toNat) (show 0 < PP by decide)
  have hp : PP = 2305843009213691579 := rfl
  exact ⟨by unfold elemM; omega, by unfold elemM; omega⟩

/-! ### Keys -/

theorem Of_ok {n : Int} (h : Fits n) : F_sign_Of (n, ()) = some (ofM n, ()) := by
  have hq : QQ = 1152921504606845789 := rfl
  unfold F_sign_Of f_sign_Of f_sign_Of_b ofM
  dsimp only
  by_cases h1 : n < 1
  · rw [bif_pos h1, if_neg (by omega)]
  · by_cases h2 : n ≥ 1152921504606845789
    · rw [bif_neg h1, bif_pos h2, if_neg (by omega)]
    · rw [bif_neg h1, bif_neg h2, if_pos (by omega), andK_some (Exp_ok four_fits h), expo_nn (by omega)]
theorem rOf_ok {n : Int} (h : Fits n) : F_bourneref05_Of (n, ()) = some (ofM n, ()) := by
  have hq : QQ = 1152921504606845789 := rfl
  unfold F_bourneref05_Of f_bourneref05_Of f_bourneref05_Of_b ofM
  dsimp only
  by_cases h1 : n < 1
  · rw [bif_pos h1, if_neg (by omega)]
  · by_cases h2 : n ≥ 1152921504606845789
    · rw [bif_neg h1, bif_pos h2, if_neg (by omega)]
    · rw [bif_neg h1, bif_neg h2, if_pos (by omega), andK_some (rExp_ok four_fits h), expo_nn (by omega)]

theorem pair_eq (a b : Int × Int) : ((a.1 == b.1) && ((a.2 == b.2) && true)) = decide (a = b) := by
  obtain ⟨a1, a2⟩ := a
  obtain ⟨b1, b2⟩ := b
  by_cases h1 : a1 = b1 <;> by_cases h2 : a2 = b2 <;> simp [h1, h2]

theorem Right_ok {k : Int × Int} (h : Fits k.1) : F_sign_Right (k, ()) = some (rightM k, ()) := by
  unfold F_sign_Right f_sign_Right f_sign_Right_b rightM
  dsimp only
  by_cases h1 : 0 < k.1
  · rw [bif_pos (by omega), andK_some (Of_ok h)]
    dsimp only
    rw [pair_eq, decide_eq_true h1, Bool.true_and]
  · rw [bif_neg (by omega), decide_eq_false h1, Bool.false_and]
theorem rRight_ok {k : Int × Int} (h : Fits k.1) : F_bourneref05_Right (k, ()) = some (rightM k, ()) := by
  unfold F_bourneref05_Right f_bourneref05_Right f_bourneref05_Right_b rightM
  dsimp only
  by_cases h1 : 0 < k.1
  · rw [bif_pos (by omega), andK_some (rOf_ok h)]
    dsimp only
    rw [pair_eq, decide_eq_true h1, Bool.true_and]
  · rw [bif_neg (by omega), decide_eq_false h1, Bool.false_and]

theorem tKey_s : tKey.size ≤ 1000000 := by decide
theorem tNonce_s : tNonce.size ≤ 1000000 := by decide
theorem tSign_s : tSign.size ≤ 1000000 := by decide
theorem tKey_t : (textB tKey).size = 5 := by decide
theorem tNonce_t : (textB tNonce).size = 7 := by decide
theorem tSign_t : (textB tSign).size = 6 := by decide

theorem secret_ok (nl : Bool) (l : List ByteArray) (hl : l.length ≤ 100) (hs : (cat l).size ≤ 900000) : F_sign_secret (⟨nl, l⟩, ()) = some (secM l, ()) := by
  have h := (shortM_b (cat l)).1
  unfold F_sign_secret f_sign_secret f_sign_secret_b secM
  dsimp only
  rw [andK_some (hash_ok nl l hl hs)]
  dsimp only
  rw [tmod_pos h, w64 (by omega) (by omega)]

theorem Key_ok {s : ByteArray} (h : s.size ≤ 5000) : F_sign_Key (s, ()) = some (keyM s, ()) := by
  have ht := textB_size s
  have hs : (cat [textB tKey, textB s]).size ≤ 900000 := by rw [cat_size]; simp only [List.map_cons, List.map_nil, List.sum_cons, List.sum_nil]; rw [tKey_t]; omega
  unfold F_sign_Key f_sign_Key f_sign_Key_b keyM
  dsimp only
  rw [andK_some (Text_ok tKey_s), andK_some (Text_ok (by omega)), andK_some (secret_ok false _ (by simp) hs), andK_some (Of_ok (sec_fits _))]

theorem cat2 (a b : ByteArray) : a ++ b = cat [a, b] := ba_ext (by rw [ba_append]; unfold cat; rw [ba_mk]; simp)
theorem rKey_ok {s : ByteArray} (h : s.size ≤ 5000) : F_bourneref05_Key (s, ()) = some (keyM s, ()) := by
  have ht := textB_size s
  have hs : (cat [textB tKey, textB s]).size ≤ 900000 := by rw [cat_size]; simp only [List.map_cons, List.map_nil, List.sum_cons, List.sum_nil]; rw [tKey_t]; omega
  have hb := (shortM_b (cat [textB tKey, textB s])).1
  unfold F_bourneref05_Key f_bourneref05_Key f_bourneref05_Key_b keyM
  dsimp only
  rw [andK_some (rText_ok tKey_s), andK_some (rText_ok (by omega))]
  dsimp only
  rw [bif_pos (by rw [tKey_t]; omega), cat2, andK_some (rShort_ok hs)]
  dsimp only
  rw [tmod_pos hb, w64 (by omega) (by omega)]
  exact (andK_some (rOf_ok (sec_fits [textB tKey, textB s]))).trans rfl

/-! ### Challenges -/

theorem chalL_size {r p : Int} (hr : Fits r) (hp : Fits p) {c m : ByteArray} (hc : c.size ≤ 5000) (hm : m.size ≤ 5000) : (cat (chalL r p c m)).size ≤ 900000 := by
  have := textB_size c; have := textB_size m; have := numB_size hr; have := numB_size hp
  unfold chalL
  rw [cat_size]; simp only [List.map_cons, List.map_nil, List.sum_cons, List.sum_nil]; rw [tSign_t]; omega
theorem nonceL_size {n : Int} (hn : Fits n) {c m : ByteArray} (hc : c.size ≤ 5000) (hm : m.size ≤ 5000) : (cat (nonceL n c m)).size ≤ 900000 := by
  have := textB_size c; have := textB_size m; have := numB_size hn
  unfold nonceL
  rw [cat_size]; simp only [List.map_cons, List.map_nil, List.sum_cons, List.sum_nil]; rw [tNonce_t]; omega

theorem challenge_ok {r p : Int} (hr : Fits r) (hp : Fits p) {c m : ByteArray} (hc : c.size ≤ 5000) (hm : m.size ≤ 5000) : F_sign_challenge (r, p, c, m, ()) = some (chalM r p c m, ()) := by
  have hs := chalL_size hr hp hc hm
  have hb := (shortM_b (cat (chalL r p c m))).1
  unfold F_sign_challenge f_sign_challenge f_sign_challenge_b chalM
  dsimp only
  rw [andK_some (Text_ok tSign_s), andK_some (Num_ok hr), andK_some (Num_ok hp), andK_some (Text_ok (by omega)), andK_some (Text_ok (by omega))]
  refine (andK_some (hash_ok false (chalL r p c m) (by simp [chalL]) hs)).trans ?_
  dsimp only
  rw [tmod_pos hb]

theorem cat_snoc (l : List ByteArray) (b : ByteArray) : cat l ++ b = cat (l ++ [b]) := ba_ext (by rw [ba_append]; unfold cat; rw [ba_mk, ba_mk, List.flatMap_append]; simp)

theorem rChallenge_ok {r p : Int} (hr : Fits r) (hp : Fits p) {c m : ByteArray} (hc : c.size ≤ 5000) (hm : m.size ≤ 5000) : F_bourneref05_Challenge (r, p, c, m, ()) = some (chalM r p c m, ()) := by
  have hs := chalL_size hr hp hc hm
  have hb := (shortM_b (cat (chalL r p c m))).1
  have t1 := textB_size c; have t2 := textB_size m; have t3 := numB_size hr; have t4 := numB_size hp
  unfold F_bourneref05_Challenge f_bourneref05_Challenge f_bourneref05_Challenge_b chalM
  dsimp only
  rw [andK_some (rText_ok tSign_s), andK_some (rNum_ok hr)]
  dsimp only
  rw [bif_pos (by rw [tSign_t]; omega), andK_some (rNum_ok hp), cat2]
  dsimp only
  rw [bif_pos (by rw [cat_size]; simp only [List.map_cons, List.map_nil, List.sum_cons, List.sum_nil]; rw [tSign_t]; omega), andK_some (rText_ok (by omega))]
  try simp only [cat_snoc, List.cons_append, List.nil_append]
  rw [bif_pos (by rw [cat_size]; simp only [List.map_cons, List.map_nil, List.sum_cons, List.sum_nil]; rw [tSign_t]; omega), andK_some (rText_ok (by omega))]
  try simp only [cat_snoc, List.cons_append, List.nil_append]
  rw [bif_pos (by rw [cat_size]; simp only [List.map_cons, List.map_nil, List.sum_cons, List.sum_nil]; rw [tSign_t]; omega)]
  try simp only [cat_snoc, List.cons_append, List.nil_append]
  refine (andK_some (rShort_ok hs)).trans ?_
  dsimp only
  rw [tmod_pos hb]

/-! ### Signatures -/

theorem right_fits {k : Int × Int} (h : rightM k = true) : 1 ≤ k.1 ∧ k.1 < QQ ∧ k.2 = gx 4 k.1.toNat ∧ Fits k.2 := by
  unfold rightM ofM at h
  simp only [Bool.and_eq_true, decide_eq_true_eq] at h
  by_cases h1 : 1 ≤ k.1 ∧ k.1 < QQ
  · rw [if_pos h1] at h
    have h2 : k.2 = gx 4 k.1.toNat := congrArg Prod.snd h.2
    exact ⟨h1.1, h1.2, h2, by rw [h2]; exact gx_fits _ _⟩
  · rw [if_neg h1] at h
    have := congrArg Prod.fst h.2
    dsimp only at this
    omega

theorem MulQs {a b : Int} (ha : Fits a) (hb : Fits b) : Fits (a * b % QQ) := by
  have := emod_b (a * b) (show 0 < QQ by decide)
  have hq : QQ = 1152921504606845789 := rfl
  exact ⟨by omega, by omega⟩

theorem Sign_ok {k : Int × Int} (hk : Fits k.1) {c m : ByteArray} (hc : c.size ≤ 5000) (hm : m.size ≤ 5000) : F_sign_Sign (k, c, m, ()) = some (signM k c m, ()) := by
  unfold F_sign_Sign f_sign_Sign f_sign_Sign_b signM
  dsimp only
  rw [andK_some (Right_ok hk)]
  dsimp only
  cases hr : rightM k with
  | false => rfl
  | true =>
    obtain ⟨k0, k1, k2, k3⟩ := right_fits hr
    have hs := nonceL_size hk hc hm
    have hn := secM_b (nonceL k.1 c m)
    rw [Bool.not_true, cond_false, if_pos rfl, andK_some (Text_ok tNonce_s), andK_some (Num_ok hk), andK_some (Text_ok (by omega)), andK_some (Text_ok (by omega))]
    refine (andK_some (secret_ok false (nonceL k.1 c m) (by simp [nonceL]) hs)).trans ?_
    dsimp only
    rw [andK_some (Exp_ok four_fits (sec_fits _)), expo_nn (by omega)]
    dsimp only
    rw [andK_some (challenge_ok (gx_fits _ _) k3 hc hm)]
    dsimp only
    rw [andK_some (MulQ_ok (chal_fits _ _ _ _) hk)]
    dsimp only
    rw [andK_some (AddQ_ok (sec_fits _) (MulQs (chal_fits _ _ _ _) hk))]
    rfl

theorem rSign_ok {k : Int × Int} (hk : Fits k.1) {c m : ByteArray} (hc : c.size ≤ 5000) (hm : m.size ≤ 5000) : F_bourneref05_Sign (k, c, m, ()) = some (signM k c m, ()) := by
  unfold F_bourneref05_Sign f_bourneref05_Sign f_bourneref05_Sign_b signM
  dsimp only
  rw [andK_some (rRight_ok hk)]
  dsimp only
  cases hr : rightM k with
  | false => rfl
  | true =>
    obtain ⟨k0, k1, k2, k3⟩ := right_fits hr
    have hs := nonceL_size hk hc hm
    have hn := secM_b (nonceL k.1 c m)
    have hb := (shortM_b (cat (nonceL k.1 c m))).1
    have t1 := textB_size c; have t2 := textB_size m; have t3 := numB_size hk
    rw [Bool.not_true, cond_false, if_pos rfl, andK_some (rText_ok tNonce_s), andK_some (rNum_ok hk)]
    dsimp only
    rw [bif_pos (by rw [tNonce_t]; omega), andK_some (rText_ok (by omega)), cat2]
    dsimp only
    rw [bif_pos (by rw [cat_size]; simp only [List.map_cons, List.map_nil, List.sum_cons, List.sum_nil]; rw [tNonce_t]; omega), andK_some (rText_ok (by omega))]
    try simp only [cat_snoc, List.cons_append, List.nil_append]
    rw [bif_pos (by rw [cat_size]; simp only [List.map_cons, List.map_nil, List.sum_cons, List.sum_nil]; rw [tNonce_t]; omega)]
    try simp only [cat_snoc, List.cons_append, List.nil_append]
    refine (andK_some (rShort_ok hs)).trans ?_
    dsimp only
    have e : IntKind.wrap .i64 (1 + Int.tmod (shortM (cat (nonceL k.1 c m))) 1152921504606845788) = nonceM k.1 c m := by
      rw [tmod_pos hb, w64 (by omega) (by omega)]; rfl
    have hnn : 0 ≤ nonceM k.1 c m := by unfold nonceM; omega
    have hnf : Fits (nonceM k.1 c m) := sec_fits _
    rw [e, andK_some (rExp_ok four_fits hnf), expo_nn hnn]
    dsimp only
    rw [andK_some (rChallenge_ok (gx_fits _ _) k3 hc hm)]
    dsimp only
    rw [andK_some (rMulQ_ok (chal_fits _ _ _ _) hk)]
    dsimp only
    rw [andK_some (rAddQ_ok hnf (MulQs (chal_fits _ _ _ _) hk))]

theorem rElement_ok {p : Int} (hp : Fits p) {s : Int × Int} (h0 : 0 ≤ s.1) (h1 : s.1 ≤ QQ) (h2 : 0 ≤ s.2) (h3 : Fits s.2) : F_bourneref05_Element (p, s, ()) = some (elemM p s, ()) := by
  have hq : QQ = 1152921504606845789 := rfl
  unfold F_bourneref05_Element f_bourneref05_Element f_bourneref05_Element_b elemM
  dsimp only
  rw [andK_some (rExp_ok four_fits h3), w64 (by omega) (by omega), andK_some (rExp_ok hp (fits_of (by omega) (by omega))), expo_nn h2, expo_nn (by omega), andK_some (rMul_ok (gx_fits _ _) (gx_fits _ _))]

theorem Verify_ok {p : Int} (hp : Fits p) {c m : ByteArray} (hc : c.size ≤ 5000) (hm : m.size ≤ 5000) (s : Int × Int) : F_sign_Verify (p, c, m, s, ()) = some (verM p c m s, ()) := by
  have hq : QQ = 1152921504606845789 := rfl
  unfold F_sign_Verify f_sign_Verify f_sign_Verify_b verM rangesM
  dsimp only
  by_cases e1 : p = 1
  · rw [bif_eq e1]; simp [e1]
  · rw [bif_ne e1, andK_some (In_ok hp)]
    dsimp only
    cases hin : inM p with
    | false => simp
    | true =>
      rw [Bool.not_true, cond_false]
      by_cases a1 : s.1 < 0
      · rw [bif_pos a1, decide_eq_false (p := 0 ≤ s.1 ∧ s.1 < QQ ∧ 0 ≤ s.2 ∧ s.2 < QQ) (by omega)]; simp
      · by_cases a2 : s.1 ≥ 1152921504606845789
        · rw [bif_neg a1, bif_pos a2, decide_eq_false (p := 0 ≤ s.1 ∧ s.1 < QQ ∧ 0 ≤ s.2 ∧ s.2 < QQ) (by omega)]; simp
        · by_cases a3 : s.2 < 0
          · rw [bif_neg a1, bif_neg a2, bif_pos a3, decide_eq_false (p := 0 ≤ s.1 ∧ s.1 < QQ ∧ 0 ≤ s.2 ∧ s.2 < QQ) (by omega)]; simp
          · by_cases a4 : s.2 ≥ 1152921504606845789
            · rw [bif_neg a1, bif_neg a2, bif_neg a3, bif_pos a4, decide_eq_false (p := 0 ≤ s.1 ∧ s.1 < QQ ∧ 0 ≤ s.2 ∧ s.2 < QQ) (by omega)]; simp
            · rw [bif_neg a1, bif_neg a2, bif_neg a3, bif_neg a4, decide_eq_true (p := 0 ≤ s.1 ∧ s.1 < QQ ∧ 0 ≤ s.2 ∧ s.2 < QQ) (by omega), decide_eq_true e1]
              rw [andK_some (Exp_ok four_fits (fits_of (by omega) (by omega))), w64 (by omega) (by omega), andK_some (Exp_ok hp (fits_of (by omega) (by omega))), expo_nn (by omega), expo_nn (by omega)]
              dsimp only
              rw [andK_some (Mul_ok (gx_fits _ _) (gx_fits _ _))]
              refine (andK_some (challenge_ok (elem_fits p s) hp hc hm)).trans ?_
              simp [Bool.beq_eq_decide_eq]
              try rfl

theorem rRanges_ok {p : Int} (hp : Fits p) (s : Int × Int) : F_bourneref05_Ranges (p, s, ()) = some (rangesM p s, ()) := by
  have hq : QQ = 1152921504606845789 := rfl
  unfold F_bourneref05_Ranges f_bourneref05_Ranges f_bourneref05_Ranges_b rangesM
  dsimp only
  rw [andK_some (rIn_ok hp)]
  dsimp only
  cases hin : inM p with
  | false => simp
  | true =>
    rw [cond_true]
    by_cases e1 : p = 1
    · subst e1; simp
    · rw [show (p != 1) = true by simp [e1], cond_true, decide_eq_true e1]
      by_cases a1 : s.1 ≥ 0
      · by_cases a2 : s.1 < 1152921504606845789
        · by_cases a3 : s.2 ≥ 0
          · rw [bif_pos a1, bif_pos a2, bif_pos a3]
            simp only [Bool.true_and]
            congr 2
            apply decide_eq_decide.2
            omega
          · rw [bif_pos a1, bif_pos a2, bif_neg a3, decide_eq_false (p := 0 ≤ s.1 ∧ s.1 < QQ ∧ 0 ≤ s.2 ∧ s.2 < QQ) (by omega)]; simp
        · rw [bif_pos a1, bif_neg a2, decide_eq_false (p := 0 ≤ s.1 ∧ s.1 < QQ ∧ 0 ≤ s.2 ∧ s.2 < QQ) (by omega)]; simp
      · rw [bif_neg a1, decide_eq_false (p := 0 ≤ s.1 ∧ s.1 < QQ ∧ 0 ≤ s.2 ∧ s.2 < QQ) (by omega)]; simp

theorem ranges_of {p : Int} {s : Int × Int} (h : rangesM p s = true) : p ≠ 1 ∧ inM p = true ∧ 0 ≤ s.1 ∧ s.1 < QQ ∧ 0 ≤ s.2 ∧ s.2 < QQ := by
  unfold rangesM at h
  simpa [Bool.and_eq_true] using h

theorem rVerify_ok {p : Int} (hp : Fits p) {c m : ByteArray} (hc : c.size ≤ 5000) (hm : m.size ≤ 5000) (s : Int × Int) : F_bourneref05_Verify (p, c, m, s, ()) = some (verM p c m s, ()) := by
  have hq : QQ = 1152921504606845789 := rfl
  unfold F_bourneref05_Verify f_bourneref05_Verify f_bourneref05_Verify_b verM
  dsimp only
  rw [andK_some (rRanges_ok hp s)]
  dsimp only
  cases hr : rangesM p s with
  | false => rfl
  | true =>
    obtain ⟨_, _, b1, b2, b3, b4⟩ := ranges_of hr
    rw [cond_true, andK_some (rElement_ok hp b1 (by omega) b3 (fits_of (by omega) (by omega)))]
    dsimp only
    rw [andK_some (rChallenge_ok (elem_fits p s) hp hc hm)]
    simp [Bool.beq_eq_decide_eq]
    try rfl

theorem short_ok (a b c : ByteArray) (ha : a.size ≤ reachBytes) (hb : b.size ≤ reachBytes) (hc : c.size ≤ reachBytes) : F_bournelaw05_short (a, b, c, ()) = some (decide (a.size + b.size + c.size ≤ 2000), ()) := by
  have hm : reachBytes = 140737488351232 := rfl
  unfold F_bournelaw05_short f_bournelaw05_short f_bournelaw05_short_b
  dsimp only
  rw [w64 (x := (a.size : Int) + b.size) (by omega) (by omega), w64 (by omega) (by omega)]
  congr 2
  apply decide_eq_decide.2
  omega
end Go.Proofs.YtnebpmcmdmpoaaaDoor.R
