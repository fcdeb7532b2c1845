/- The digest: the reference's sum, and the numbers made of sums. -/
import Derived.Test.YtnebpmcmdmpoaaaDoorPDig4
import Derived.KernelRfl
namespace Go.Proofs.YtnebpmcmdmpoaaaDoor.R
open Go
set_option linter.unusedSimpArgs false
set_option linter.unusedVariables false
set_option maxRecDepth 10000

theorem outW_b {x : Int} (h0 : 0 ≤ x) (h1 : x < 4294967296) : ∀ b ∈ outW x, 0 ≤ b ∧ b < 256 := by
  intro b hb
  simp only [outW, List.mem_cons, List.not_mem_nil, or_false] at hb
  omega
theorem outs_b {h : List Int} (hb : B32 h) : ∀ b ∈ h.flatMap outW, 0 ≤ b ∧ b < 256 := by
  intro b hm
  obtain ⟨x, hx, hm⟩ := List.mem_flatMap.1 hm
  obtain ⟨i, hi, rfl⟩ := List.getElem_of_mem hx
  have := hb.2 i (by rw [← hb.1]; exact hi)
  rw [List.getD_eq_getElem?_getD, List.getElem?_eq_getElem hi] at this
  exact outW_b this.1 this.2 b hm
theorem outs_len {h : List Int} (hh : h.length = 8) : (h.flatMap outW).length = 32 := by
  match h, hh with
  | [_, _, _, _, _, _, _, _], _ => rfl
theorem sumL_b (l : List UInt8) : ∀ b ∈ sumL l, 0 ≤ b ∧ b < 256 := outs_b (stateOf_b32 l)
theorem sumL_len (l : List UInt8) : (sumL l).length = 32 := outs_len (stateOf_b32 l).1
theorem strOf_bytes {l : List Int} (h : ∀ b ∈ l, 0 ≤ b ∧ b < 256) : (strOf l).data.toList.map toI = l := by
  unfold strOf
  rw [ba_mk, List.map_map]
  conv => rhs; rw [← List.map_id l]
  apply List.map_congr_left
  intro b hb
  have := h b hb
  simp only [Function.comp, toI, id]
  rw [UInt8.toNat_ofNat', Nat.mod_eq_of_lt (by omega)]
  omega
theorem strOf_size (l : List Int) : (strOf l).size = l.length := by unfold strOf; rw [ba_size, List.length_map]
theorem bt_strOf {l : List Int} (h : ∀ b ∈ l, 0 ≤ b ∧ b < 256) {i : Nat} (hi : i < l.length) : bt (strOf l) (i : Int) = l.getD i 0 := by
  have e := strOf_bytes h
  have hl : i < (strOf l).data.toList.length := by rw [← size_eq, strOf_size]; exact hi
  rw [bt_eq _ _ hl]
  have : ((strOf l).data.toList.map toI)[i]? = l[i]? := by rw [e]
  rw [List.getElem?_map, List.getElem?_eq_getElem hl] at this
  rw [List.getD_eq_getElem?_getD, ← this]; rfl

section
variable {Ω : Type}

theorem rs_l0 (ret : ByteArray × Unit → Option Ω) (k : Nat) (h : List Int) (hb : B32 h) (nh : Bool) : ∀ (d n i : Nat) (nl : Bool), i + d = 8 → d < n →
    f_bourneref03_Sum_l0 ret k n ⟨nh, h⟩ (i : Int) ⟨nl, (h.take i).flatMap outW⟩ = ret (strOf (h.flatMap outW), ())
  | 0, n, i, nl, hi, hn => by
    obtain ⟨n, rfl⟩ : ∃ m, n = m + 1 := ⟨n - 1, by omega⟩
    simp only [f_bourneref03_Sum_l0, f_bourneref03_Sum_l0s]
    rw [bif_neg (by omega), List.take_of_length_le (by rw [hb.1]; omega)]
  | d + 1, n, i, nl, hi, hn => by
    obtain ⟨n, rfl⟩ : ∃ m, n = m + 1 := ⟨n - 1, by omega⟩
    have hil : i < h.length := by rw [hb.1]; omega
    have hx := hb.2 i (by omega)
    have hlen : ((h.take i).flatMap outW).length ≤ 40 := by
      have : ∀ l : List Int, (l.flatMap outW).length = 4 * l.length := by
        intro l
        induction l with
        | nil => rfl
        | cons a r ih => rw [List.flatMap_cons, List.length_append, ih]; simp [outW]; omega
      rw [this, List.length_take]; omega
    simp only [f_bourneref03_Sum_l0, f_bourneref03_Sum_l0s]
    rw [bif_pos (by omega), bif_in (by omega) (by rw [hb.1]; omega), Int.toNat_natCast, bif_room (by omega), w64 (x := (i : Int) + 1) (by omega) (by omega), show (i : Int) + 1 = ((i + 1 : Nat) : Int) by omega]
    rw [tmod_pos hx.1, tdiv_pos hx.1, tdiv_pos hx.1, tdiv_pos hx.1, wu32, wu32, wu32, wu8, wu8, wu8, wu8, tmod_pos (by omega), tmod_pos (by omega)]
    have ht : (h.take i).flatMap outW ++ [h.getD i 0 % 256 % 256, h.getD i 0 / 256 % 4294967296 % 256 % 256, h.getD i 0 / 65536 % 4294967296 % 256 % 256, h.getD i 0 / 16777216 % 4294967296 % 256] = (h.take (i + 1)).flatMap outW := by
      rw [List.take_succ_eq_append_getElem hil, List.flatMap_append]
      congr 1
      have e : h.getD i 0 = h[i] := by rw [List.getD_eq_getElem?_getD, List.getElem?_eq_getElem hil]; rfl
      rw [e] at hx ⊢
      simp only [List.flatMap_cons, List.flatMap_nil, List.append_nil, outW]
      congr 1
      · omega
      · congr 1
        · omega
        · congr 1
          · omega
          · congr 1
            omega
    rw [ht]
    exact rs_l0 ret k h hb nh d n (i + 1) _ (by omega) (by omega)

/-- what a block's compression is, in the reference's words -/
def compAt (h : List Int) (s : ByteArray) (at_ : Nat) : List Int := comp h (wordsM (s.data.toList.drop at_)) (endM s.size at_) (endM s.size at_ == (s.size : Int))

theorem compAt_more {h : List Int} {s : ByteArray} {at_ : Nat} (hc : at_ + 64 < s.size) : compAt h s at_ = comp h (wordsM ((s.data.toList.drop at_).take 64)) ((at_ + 64 : Nat) : Int) false := by
  have e : endM s.size at_ = ((at_ + 64 : Nat) : Int) := by unfold endM; rw [if_neg (by omega)]; omega
  unfold compAt
  rw [e, wordsM_take, beq_eq_false_iff_ne.2 (by omega)]
theorem compAt_last {h : List Int} {s : ByteArray} {at_ : Nat} (h1 : at_ ≤ s.size) (hc : s.size ≤ at_ + 64) : compAt h s at_ = comp h (wordsM (s.data.toList.drop at_)) ((s.size : Nat) : Int) true := by
  have e : endM s.size at_ = ((s.size : Nat) : Int) := by unfold endM; split <;> omega
  unfold compAt
  rw [e, beq_iff_eq.2 rfl]

theorem rs_l1 (ret : ByteArray × Unit → Option Ω) (k : Nat) (hk : 10 ≤ k) (s : ByteArray) (hs : s.size ≤ 900000) : ∀ (n at_ : Nat) (h : List Int) (nl : Bool), at_ ≤ s.size → s.size < at_ + n → h.length = 8 →
    f_bourneref03_Sum_l1 ret k n s ⟨nl, compAt h s at_⟩ ((at_ + 64 : Nat) : Int) = ret (strOf ((sumGo (s.size + 1) h (s.data.toList.drop at_) at_).flatMap outW), ())
  | 0, at_, h, nl, h1, h2, hh => by omega
  | n + 1, at_, h, nl, h1, h2, hh => by
    have hld : (s.data.toList.drop at_).length = s.size - at_ := by rw [List.length_drop, ← size_eq]
    simp only [f_bourneref03_Sum_l1, f_bourneref03_Sum_l1s]
    by_cases hc : at_ + 64 < s.size
    · have hr := rcompress_ok (comp_len h (wordsM ((s.data.toList.drop at_).take 64)) ((at_ + 64 : Nat) : Int) false) nl hs (at_ := at_ + 64) (by omega)
      rw [bif_pos (by omega), compAt_more hc, andK_some hr, w64 (x := ((at_ + 64 : Nat) : Int) + 64) (by omega) (by omega), show ((at_ + 64 : Nat) : Int) + 64 = ((at_ + 64 + 64 : Nat) : Int) by omega]
      have := rs_l1 ret k hk s hs n (at_ + 64) (comp h (wordsM ((s.data.toList.drop at_).take 64)) ((at_ + 64 : Nat) : Int) false) false (by omega) (by omega) (comp_len _ _ _ _)
      refine this.trans ?_
      rw [sumGo_fuel (s.size + 1) (s.size) _ (s.data.toList.drop (at_ + 64)) _ (by rw [List.length_drop, ← size_eq]; omega) (by rw [List.length_drop, ← size_eq]; omega)]
      conv => rhs; rw [sumGo, if_pos (by omega), List.drop_drop]
    · rw [bif_neg (by omega), compAt_last h1 (by omega), sumGo, if_neg (by omega), hld, show at_ + (s.size - at_) = s.size by omega]
      exact rs_l0 ret k _ (comp_b32 _ _ _ _) nl 8 k 0 true (by omega) (by omega)
end

theorem rSum_ok {s : ByteArray} (hs : s.size ≤ 900000) : F_bourneref03_Sum (s, ()) = some (sumB s, ()) := by
  refine ends_of (.from (s.size + 10) fun k hk => ?_)
  unfold f_bourneref03_Sum f_bourneref03_Sum_b
  dsimp only
  have hr := rcompress_ok (h := first0) rfl false hs (at_ := 0) (by omega)
  rw [show ((0 : Nat) : Int) = 0 from rfl] at hr
  erw [andK_some hr]
  have := rs_l1 some k (by omega) s hs k 0 first0 false (by omega) (by omega) rfl
  refine this.trans ?_
  rw [List.drop_zero, size_eq]
  rfl

/-! ### Numbers -/

/-- the number that the first sixty bits are -/
def shortL (l : List Int) : Int := (l.take 7).foldl (fun n b => n * 256 + b) 0 * 16 + l.getD 7 0 / 16
def shortM (s : ByteArray) : Int := shortL (sumL s.data.toList)

theorem fold_b : ∀ (l : List Int) (x : Int) (B : Int), (∀ b ∈ l, 0 ≤ b ∧ b < 256) → 0 ≤ x → x < B → 0 ≤ l.foldl (fun n b => n * 256 + b) x ∧ l.foldl (fun n b => n * 256 + b) x < B * 256 ^ l.length
  | [], x, B, _, h0, h1 => by simp; exact ⟨h0, h1⟩
  | b :: l, x, B, hb, h0, h1 => by
    have := hb b List.mem_cons_self
    rw [List.foldl_cons]
    have := fold_b l (x * 256 + b) (B * 256) (fun c hc => hb c (List.mem_cons_of_mem _ hc)) (by omega) (by omega)
    rw [List.length_cons, Int.pow_succ, Int.mul_comm (256 ^ l.length) 256, ← Int.mul_assoc]
    exact this

theorem shortM_b (s : ByteArray) : 0 ≤ shortM s ∧ shortM s < 1152921504606846976 := by
  have hb := sumL_b s.data.toList
  have hl := sumL_len s.data.toList
  obtain ⟨h0, h1⟩ := fold_b ((sumL s.data.toList).take 7) 0 1 (fun b hm => hb b (List.mem_of_mem_take hm)) (by decide) (by decide)
  rw [List.length_take, hl] at h1
  have e : (1 : Int) * 256 ^ min 7 32 = 72057594037927936 := by decide
  rw [e] at h1
  have h7 := hb ((sumL s.data.toList).getD 7 0) (by rw [List.getD_eq_getElem?_getD, List.getElem?_eq_getElem (by omega)]; exact List.getElem_mem _)
  unfold shortM shortL
  omega

theorem sh_l0 {Ω : Type} (ret : Int × Unit → Option Ω) (k : Nat) (l : List Int) (hl : l.length = 8) (hb : ∀ b ∈ l, 0 ≤ b ∧ b < 256) : ∀ (d n i : Nat), i + d = 8 → d < n →
    f_digest_Short_l0 ret k n ((l.take i).foldl (fun n b => n * 256 + b) 0) ⟨false, l⟩ 8 (i : Int) = ret (shortL l, ())
  | 0, n, i, hi, hn => by
    obtain ⟨n, rfl⟩ : ∃ m, n = m + 1 := ⟨n - 1, by omega⟩
    have : i = 8 := by omega
    subst this
    simp only [f_digest_Short_l0, f_digest_Short_l0s]
    rw [bif_neg (by omega)]
    have hsh := shr_u64 ((l.take 8).foldl (fun n b => n * 256 + b) 0) 4 (by decide)
    rw [show ((4 : Nat) : Int) = 4 from rfl] at hsh
    have h7 : l.take 8 = l.take 7 ++ [l.getD 7 0] := by
      match l, hl with
      | [_, _, _, _, _, _, _, _], _ => rfl
    rw [hsh, h7, List.foldl_append]
    obtain ⟨h0, h1⟩ := fold_b (l.take 7) 0 1 (fun b hm => hb b (List.mem_of_mem_take hm)) (by decide) (by decide)
    rw [List.length_take, hl] at h1
    have e : (1 : Int) * 256 ^ min 7 8 = 72057594037927936 := by decide
    rw [e] at h1
    have hb7 := hb (l.getD 7 0) (by rw [List.getD_eq_getElem?_getD, List.getElem?_eq_getElem (by omega)]; exact List.getElem_mem _)
    simp only [List.foldl_cons, List.foldl_nil]
    rw [w64 (by omega) (by omega)]
    unfold shortL
    congr 2
    omega
  | d + 1, n, i, hi, hn => by
    obtain ⟨n, rfl⟩ : ∃ m, n = m + 1 := ⟨n - 1, by omega⟩
    have hil : i < l.length := by omega
    obtain ⟨h0, h1⟩ := fold_b (l.take i) 0 1 (fun b hm => hb b (List.mem_of_mem_take hm)) (by decide) (by decide)
    rw [List.length_take, Nat.min_eq_left (by omega), Int.one_mul] at h1
    have hp : (256 : Int) ^ i ≤ 72057594037927936 := by
      have : (256 : Int) ^ i ≤ 256 ^ 7 := by exact_mod_cast Nat.pow_le_pow_right (by decide) (by omega : i ≤ 7)
      have e : (256 : Int) ^ 7 = 72057594037927936 := by decide
      omega
    have hbi := hb l[i] (List.getElem_mem hil)
    simp only [f_digest_Short_l0, f_digest_Short_l0s]
    have hsh := shl_u64 ((l.take i).foldl (fun n b => n * 256 + b) 0) 8 (by decide)
    rw [show ((8 : Nat) : Int) = 8 from rfl] at hsh
    have hg := u64_glue ((l.take i).foldl (fun n b => n * 256 + b) 0) l[i] 8 (by decide) h0 (by omega) hbi.1 (by omega)
    rw [show (2 : Int) ^ 8 = 256 by decide] at hg hsh
    rw [bif_pos (by omega), bif_in (by omega) (by omega), Int.toNat_natCast, List.getD_eq_getElem?_getD, List.getElem?_eq_getElem hil, Option.getD_some, hsh, Int.emod_eq_of_lt (by omega) (by omega), wu64_in hbi.1 (by omega), hg, w64 (x := (i : Int) + 1) (by omega) (by omega), show (i : Int) + 1 = ((i + 1 : Nat) : Int) by omega]
    rw [← sh_l0 ret k l hl hb d n (i + 1) (by omega) (by omega), List.take_succ_eq_append_getElem hil, List.foldl_append]
    rfl

theorem Short_ok {s : ByteArray} (hs : s.size ≤ 900000) : F_digest_Short (s, ()) = some (shortM s, ()) := by
  refine ends_of (.from 20 fun k hk => ?_)
  unfold f_digest_Short f_digest_Short_b
  dsimp only
  have hsz : (sumB s).size = 32 := by unfold sumB; rw [strOf_size, sumL_len]
  rw [andK_some (Sum_ok hs)]
  dsimp only
  have hb : bytesOf ((sumB s).extract 0 8) = (sumL s.data.toList).take 8 := by
    rw [bytesOf_eq, ex_toList, List.drop_zero, List.map_take]
    unfold sumB
    rw [strOf_bytes (sumL_b _)]
  rw [hsz, bif_is (by omega) (by omega) (by omega), hb]
  have hl8 : ((sumL s.data.toList).take 8).length = 8 := by rw [List.length_take, sumL_len]; rfl
  have := sh_l0 some k ((sumL s.data.toList).take 8) hl8 (fun b hm => sumL_b _ b (List.mem_of_mem_take hm)) 8 k 0 (by omega) (by omega)
  rw [hl8]
  refine this.trans ?_
  unfold shortM shortL
  rw [List.take_take, List.getD_eq_getElem?_getD, List.getElem?_take_of_lt (by decide), ← List.getD_eq_getElem?_getD]
  rfl

theorem rsh_l0 {Ω : Type} (ret : Int × Unit → Option Ω) (k : Nat) (l : List Int) (hl : l.length = 32) (hb : ∀ b ∈ l, 0 ≤ b ∧ b < 256) : ∀ (d n i : Nat), i + d = 7 → d < n →
    f_bourneref03_Short_l0 ret k n (strOf l) ((l.take i).foldl (fun n b => n * 256 + b) 0) (i : Int) = ret (shortL l, ())
  | 0, n, i, hi, hn => by
    obtain ⟨n, rfl⟩ : ∃ m, n = m + 1 := ⟨n - 1, by omega⟩
    have : i = 7 := by omega
    subst this
    obtain ⟨h0, h1⟩ := fold_b (l.take 7) 0 1 (fun b hm => hb b (List.mem_of_mem_take hm)) (by decide) (by decide)
    rw [List.length_take, hl] at h1
    have e : (1 : Int) * 256 ^ min 7 32 = 72057594037927936 := by decide
    rw [e] at h1
    have hb7 := hb (l.getD 7 0) (by rw [List.getD_eq_getElem?_getD, List.getElem?_eq_getElem (by omega)]; exact List.getElem_mem _)
    have hbt := bt_strOf hb (i := 7) (by omega)
    rw [show ((7 : Nat) : Int) = 7 from rfl] at hbt
    simp only [f_bourneref03_Short_l0, f_bourneref03_Short_l0s]
    rw [bif_neg (by omega), strOf_size, hl, bif_in (by omega) (by omega), hbt, w64 (x := l.getD 7 0) (by omega) (by omega), tdiv_pos hb7.1, w64 (x := l.getD 7 0 / 16) (by omega) (by omega), w64 (x := (l.take 7).foldl (fun n b => n * 256 + b) 0 * 16) (by omega) (by omega), w64 (by omega) (by omega)]
    rfl
  | d + 1, n, i, hi, hn => by
    obtain ⟨n, rfl⟩ : ∃ m, n = m + 1 := ⟨n - 1, by omega⟩
    have hil : i < l.length := by omega
    obtain ⟨h0, h1⟩ := fold_b (l.take i) 0 1 (fun b hm => hb b (List.mem_of_mem_take hm)) (by decide) (by decide)
    rw [List.length_take, Nat.min_eq_left (by omega), Int.one_mul] at h1
    have hp : (256 : Int) ^ i ≤ 281474976710656 := by
      have : (256 : Int) ^ i ≤ 256 ^ 6 := by exact_mod_cast Nat.pow_le_pow_right (by decide) (by omega : i ≤ 6)
      have e : (256 : Int) ^ 6 = 281474976710656 := by decide
      omega
    have hbi := hb l[i] (List.getElem_mem hil)
    simp only [f_bourneref03_Short_l0, f_bourneref03_Short_l0s]
    rw [bif_pos (by omega), strOf_size, hl, bif_in (by omega) (by omega), bt_strOf hb hil, List.getD_eq_getElem?_getD, List.getElem?_eq_getElem hil, Option.getD_some, w64 (x := l[i]) (by omega) (by omega), w64 (x := (l.take i).foldl (fun n b => n * 256 + b) 0 * 256) (by omega) (by omega), w64 (x := (l.take i).foldl (fun n b => n * 256 + b) 0 * 256 + l[i]) (by omega) (by omega), w64 (x := (i : Int) + 1) (by omega) (by omega), show (i : Int) + 1 = ((i + 1 : Nat) : Int) by omega]
    rw [← rsh_l0 ret k l hl hb d n (i + 1) (by omega) (by omega), List.take_succ_eq_append_getElem hil, List.foldl_append]
    rfl

theorem rShort_ok {s : ByteArray} (hs : s.size ≤ 900000) : F_bourneref03_Short (s, ()) = some (shortM s, ()) := by
  refine ends_of (.from 20 fun k hk => ?_)
  unfold f_bourneref03_Short f_bourneref03_Short_b
  dsimp only
  rw [andK_some (rSum_ok hs)]
  exact rsh_l0 some k (sumL s.data.toList) (sumL_len _) (sumL_b _) 7 k 0 (by omega) (by omega)
end Go.Proofs.YtnebpmcmdmpoaaaDoor.R
