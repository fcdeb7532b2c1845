/- Powers modulo a number, orders, and two primes by Lucas's test: no program in sight. -/
namespace Go.Proofs.YtnebpmcmdmpoaaaDoor.Num

/-! ### Powers modulo m -/

def pmF : Nat → Nat → Nat → Nat → Nat
  | 0, _, _, m => 1 % m
  | k + 1, a, e, m => if e % 2 = 0 then pmF k a (e / 2) m * pmF k a (e / 2) m % m else pmF k a (e / 2) m * pmF k a (e / 2) m % m * a % m

/-- the same, each half reckoned once -/
def pm : Nat → Nat → Nat → Nat → Nat
  | 0, _, _, m => 1 % m
  | k + 1, a, e, m => (fun h => if e % 2 = 0 then h * h % m else h * h % m * a % m) (pm k a (e / 2) m)

theorem pm_eq (a m : Nat) : ∀ (k e : Nat), e < 2 ^ k → pm k a e m = a ^ e % m
  | 0, e, h => by
    have : e = 0 := by simpa using h
    subst this; rfl
  | k + 1, e, h => by
    have h2 : e / 2 < 2 ^ k := by rw [Nat.pow_succ] at h; omega
    have ih := pm_eq a m k (e / 2) h2
    show (if e % 2 = 0 then pm k a (e / 2) m * pm k a (e / 2) m % m else pm k a (e / 2) m * pm k a (e / 2) m % m * a % m) = _
    rw [ih, ← Nat.mul_mod, ← Nat.pow_add]
    split
    · rename_i h0
      rw [show e / 2 + e / 2 = e by omega]
    · rename_i h0
      rw [Nat.mod_mul_mod, ← Nat.pow_succ, show (e / 2 + e / 2).succ = e by omega]

/-! ### Orders -/

/-- a to the k is 1 -/
def T (a n k : Nat) : Prop := a ^ k % n = 1 % n

theorem T.mul {a n k : Nat} (h : T a n k) (j : Nat) : T a n (k * j) := by
  unfold T at *
  rw [Nat.pow_mul, Nat.pow_mod, h, ← Nat.pow_mod, Nat.one_pow]

theorem T.add {a n k r : Nat} (h : T a n k) : a ^ (k + r) % n = a ^ r % n := by
  unfold T at h
  rw [Nat.pow_add, Nat.mul_mod, h, ← Nat.mul_mod, Nat.one_mul]

theorem least {p : Nat → Prop} : ∀ (n : Nat), p n → ∃ m, p m ∧ ∀ k, p k → m ≤ k := by
  classical
  intro n
  induction n using Nat.strongRecOn with
  | ind n ih =>
    intro hn
    by_cases h : ∃ k, k < n ∧ p k
    · obtain ⟨k, hk, hp⟩ := h; exact ih k hk hp
    · exact ⟨n, hn, fun k hk => Nat.le_of_not_lt fun hlt => h ⟨k, hlt, hk⟩⟩

/-- the least exponent divides the others -/
theorem order {a n N : Nat} (hN : 0 < N) (h : T a n N) : ∃ d, 0 < d ∧ T a n d ∧ ∀ k, T a n k → d ∣ k := by
  obtain ⟨d, ⟨hd0, hd⟩, hmin⟩ := least (p := fun k => 0 < k ∧ T a n k) N ⟨hN, h⟩
  refine ⟨d, hd0, hd, fun k hk => ?_⟩
  have hr : T a n (k % d) := by
    have h1 : k = d * (k / d) + k % d := (Nat.div_add_mod k d).symm
    have h2 : a ^ (d * (k / d) + k % d) % n = a ^ (k % d) % n := (hd.mul (k / d)).add
    rw [← h1] at h2
    unfold T at hk ⊢
    rw [← h2, hk]
  rcases Nat.eq_zero_or_pos (k % d) with h0 | h0
  · exact Nat.dvd_of_mod_eq_zero h0
  · have := hmin _ ⟨h0, hr⟩
    have := Nat.mod_lt k hd0
    omega

/-! ### Primes -/

def Pr (n : Nat) : Prop := 2 ≤ n ∧ ∀ d, d ∣ n → d = 1 ∨ d = n

theorem prime_factor : ∀ (n : Nat), 2 ≤ n → ∃ q, Pr q ∧ q ∣ n := by
  classical
  intro n
  induction n using Nat.strongRecOn with
  | ind n ih =>
    intro hn
    by_cases h : ∃ d, d ∣ n ∧ d ≠ 1 ∧ d ≠ n
    · obtain ⟨d, hd, h1, h2⟩ := h
      have hpos : 0 < d := Nat.pos_of_dvd_of_pos hd (by omega)
      have hle := Nat.le_of_dvd (by omega) hd
      obtain ⟨q, hq, hqd⟩ := ih d (by omega) (by omega)
      exact ⟨q, hq, Nat.dvd_trans hqd hd⟩
    · exact ⟨n, ⟨hn, fun d hd => by
        by_cases h1 : d = 1
        · exact .inl h1
        · by_cases h2 : d = n
          · exact .inr h2
          · exact absurd ⟨d, hd, h1, h2⟩ h⟩, Nat.dvd_refl n⟩

theorem Pr.dvd_mul {q a b : Nat} (h : Pr q) (hd : q ∣ a * b) : q ∣ a ∨ q ∣ b := by
  by_cases ha : q ∣ a
  · exact .inl ha
  · right
    have hg : Nat.gcd q a = 1 := by
      rcases h.2 _ (Nat.gcd_dvd_left q a) with e | e
      · exact e
      · exact absurd (e ▸ Nat.gcd_dvd_right q a) ha
    exact Nat.Coprime.dvd_of_dvd_mul_left hg hd

theorem Pr.dvd_pr {q p : Nat} (hq : Pr q) (hp : Pr p) (h : q ∣ p) : q = p := by
  rcases hp.2 q h with e | e
  · have := hq.1; omega
  · exact e

theorem Pr.dvd_prod {q : Nat} (hq : Pr q) : ∀ (l : List Nat), (∀ p ∈ l, Pr p) → q ∣ l.foldr (· * ·) 1 → q ∈ l
  | [], _, h => by have := hq.1; have := Nat.le_of_dvd (by decide) h; simp at this; omega
  | p :: l, hl, h => by
    rcases hq.dvd_mul h with h | h
    · rw [hq.dvd_pr (hl p List.mem_cons_self) h]; exact List.mem_cons_self
    · exact List.mem_cons_of_mem _ (hq.dvd_prod l (fun p hp => hl p (List.mem_cons_of_mem _ hp)) h)

/-- few numbers fit below a bound, each once -/
theorem nodup_bound : ∀ (n : Nat) (l : List Nat), l.Nodup → (∀ x ∈ l, x < n) → l.length ≤ n
  | 0, l, _, h => by
    cases l with
    | nil => simp
    | cons x xs => have := h x (by simp); omega
  | n + 1, l, hd, h => by
    by_cases hm : n ∈ l
    · have h1 := nodup_bound n (l.erase n) (hd.erase _) (fun x hx => by
        have h2 := (List.Nodup.mem_erase_iff hd).1 hx
        have h3 := h x h2.2
        omega)
      rw [List.length_erase_of_mem hm] at h1
      omega
    · have h1 := nodup_bound n l hd (fun x hx => by
        have h3 := h x hx
        have : x ≠ n := fun e => hm (e ▸ hx)
        omega)
      omega

/-- the exponents of 1 are the multiples of N, if N is one of them, and N divided by each of its primes is not -/
theorem order_is {a n N : Nat} (hN : 0 < N) (h : T a n N) (l : List Nat) (hl : ∀ p ∈ l, Pr p) (hprod : l.foldr (· * ·) 1 = N) (hne : ∀ p ∈ l, ¬ T a n (N / p)) : ∀ k, T a n k → N ∣ k := by
  obtain ⟨d, hd0, hd, hmin⟩ := order hN h
  obtain ⟨c, hc⟩ := hmin N h
  have hc0 : 0 < c := by rcases Nat.eq_zero_or_pos c with e | e; · rw [e] at hc; omega
                         · exact e
  rcases Nat.lt_or_ge c 2 with h1 | h1
  · have : c = 1 := by omega
    rw [this, Nat.mul_one] at hc
    rw [hc]; exact hmin
  · obtain ⟨q, hq, hqc⟩ := prime_factor c h1
    have hqN : q ∣ N := by rw [hc]; exact Nat.dvd_trans hqc (Nat.dvd_mul_left c d)
    have hm := hq.dvd_prod l hl (hprod ▸ hqN)
    obtain ⟨e, he⟩ := hqc
    have : N / q = d * e := by
      rw [hc, he, show d * (q * e) = q * (d * e) by rw [Nat.mul_left_comm], Nat.mul_div_cancel_left _ (by have := hq.1; omega)]
    exact absurd (this ▸ hd.mul e) (hne q hm)

theorem lucas {a n : Nat} (hn : 2 < n) (h : T a n (n - 1)) (l : List Nat) (hl : ∀ p ∈ l, Pr p) (hprod : l.foldr (· * ·) 1 = n - 1) (hne : ∀ p ∈ l, ¬ T a n ((n - 1) / p)) : Pr n := by
  have hord := order_is (by omega) h l hl hprod hne
  refine ⟨by omega, fun d hd => ?_⟩
  by_cases h1 : d = 1
  · exact .inl h1
  by_cases h2 : d = n
  · exact .inr h2
  exfalso
  have hdp : 0 < d := Nat.pos_of_dvd_of_pos hd (by omega)
  have hdl : d < n := by have := Nat.le_of_dvd (by omega) hd; omega
  have one : 1 % n = 1 := Nat.mod_eq_of_lt (by omega)
  -- a power of a has an inverse
  have inv : ∀ i, i < n - 1 → a ^ i * a ^ (n - 1 - i) % n = 1 := by
    intro i hi
    rw [← Nat.pow_add, show i + (n - 1 - i) = n - 1 by omega]
    have := h; unfold T at this; rw [this, one]
  have notd : ∀ i, i < n - 1 → a ^ i % n ≠ d := by
    intro i hi e
    have h3 := inv i hi
    rw [Nat.mul_mod, e, Nat.mul_mod_mod] at h3
    have h4 : d ∣ d * a ^ (n - 1 - i) % n := (Nat.dvd_mod_iff hd).2 (Nat.dvd_mul_right _ _)
    rw [h3] at h4
    have := Nat.le_of_dvd (by decide) h4
    omega
  have not0 : ∀ i, i < n - 1 → a ^ i % n ≠ 0 := by
    intro i hi e
    have h3 := inv i hi
    rw [Nat.mul_mod, e, Nat.zero_mul, Nat.zero_mod] at h3
    omega
  have inj : ∀ i j, i < j → j < n - 1 → a ^ i % n ≠ a ^ j % n := by
    intro i j hij hj e
    have h3 := inv i (by omega)
    have h4 : a ^ (j - i) % n = 1 % n := by
      have h5 : a ^ j * a ^ (n - 1 - i) % n = 1 := by rw [Nat.mul_mod, ← e, ← Nat.mul_mod]; exact h3
      rw [← Nat.pow_add, show j + (n - 1 - i) = (n - 1) + (j - i) by omega] at h5
      rw [h.add] at h5
      rw [h5, one]
    have := hord _ h4
    have := Nat.le_of_dvd (by omega) this
    omega
  have hnd : ((0 : Nat) :: d :: (List.range (n - 1)).map fun i => a ^ i % n).Nodup := by
    rw [List.nodup_cons, List.nodup_cons]
    refine ⟨?_, ?_, ?_⟩
    · rw [List.mem_cons]
      rintro (e | e)
      · omega
      · obtain ⟨i, hi, e⟩ := List.mem_map.1 e
        exact not0 i (List.mem_range.1 hi) e
    · intro e
      obtain ⟨i, hi, e⟩ := List.mem_map.1 e
      exact notd i (List.mem_range.1 hi) e
    · rw [List.nodup_iff_pairwise_ne, List.pairwise_map]
      refine List.Pairwise.imp_of_mem (R := fun x y => x < y) ?_ List.pairwise_lt_range
      intro x y hx hy hxy
      exact inj x y hxy (List.mem_range.1 hy)
  have hb := nodup_bound n _ hnd (fun x hx => by
    rcases List.mem_cons.1 hx with rfl | hx
    · omega
    · rcases List.mem_cons.1 hx with rfl | hx
      · exact hdl
      · obtain ⟨i, _, rfl⟩ := List.mem_map.1 hx
        exact Nat.mod_lt _ (by omega))
  simp at hb
  omega

/-! ### Small primes by trial -/

/-- none of lo, .., lo + n - 1 divides p -/
def clear : Nat → Nat → Nat → Nat → Bool
  | 0, _, _, _ => false
  | k + 1, p, lo, n => if n = 0 then true else if n = 1 then (p % lo != 0) else clear k p lo (n / 2) && clear k p (lo + n / 2) (n - n / 2)

theorem clear_ok (p : Nat) : ∀ (k lo n : Nat), clear k p lo n = true → ∀ d, lo ≤ d → d < lo + n → ¬ d ∣ p
  | 0, _, _, h => by cases h
  | k + 1, lo, n, h => by
    intro d h1 h2
    unfold clear at h
    split at h
    · omega
    · split at h
      · rename_i h3
        have : d = lo := by omega
        subst this
        intro hd
        have := Nat.mod_eq_zero_of_dvd hd
        simp [this] at h
      · simp only [Bool.and_eq_true] at h
        by_cases hlt : d < lo + n / 2
        · exact clear_ok p k lo (n / 2) h.1 d h1 hlt
        · exact clear_ok p k (lo + n / 2) (n - n / 2) h.2 d (by omega) (by omega)

theorem prime_of_clear {p s : Nat} (hp : 2 ≤ p) (hs : p < (s + 2) * (s + 2)) (h : clear 64 p 2 s = true) : Pr p := by
  have small : ∀ d, 2 ≤ d → d < s + 2 → ¬ d ∣ p := fun d h1 h2 => clear_ok p 64 2 s h d h1 (by omega)
  refine ⟨hp, fun d hd => ?_⟩
  by_cases h1 : d = 1
  · exact .inl h1
  by_cases h2 : d = p
  · exact .inr h2
  exfalso
  obtain ⟨e, he⟩ := hd
  have hd0 : d ≠ 0 := by intro z; rw [z, Nat.zero_mul] at he; omega
  have he0 : e ≠ 0 := by intro z; rw [z, Nat.mul_zero] at he; omega
  have he1 : e ≠ 1 := by intro z; rw [z, Nat.mul_one] at he; exact h2 he.symm
  rcases Nat.lt_or_ge d (s + 2) with h3 | h3
  · exact small d (by omega) h3 ⟨e, he⟩
  · rcases Nat.lt_or_ge e (s + 2) with h4 | h4
    · exact small e (by omega) h4 ⟨d, by rw [Nat.mul_comm]; exact he⟩
    · have := Nat.mul_le_mul h3 h4
      omega

/-! ### The two -/

def Q : Nat := 1152921504606845789
def Pm : Nat := 2305843009213691579

theorem T_of {a n k : Nat} (hk : k < 2 ^ 64) (h : pm 64 a k n = 1 % n) : T a n k := by unfold T; rw [← h, pm_eq a n 64 k hk]
theorem notT_of {a n k : Nat} (hk : k < 2 ^ 64) (h : pm 64 a k n ≠ 1 % n) : ¬ T a n k := by unfold T; rw [← pm_eq a n 64 k hk]; exact h

theorem pr2 : Pr 2 := prime_of_clear (s := 0) (by decide) (by decide) (by decide)
theorem pr3 : Pr 3 := prime_of_clear (s := 0) (by decide) (by decide) (by decide)
theorem prA : Pr 8469779 := prime_of_clear (s := 2910) (by decide) (by decide) (by decide +kernel)
theorem prB : Pr 5671741379 := prime_of_clear (s := 75311) (by decide) (by decide) (by decide +kernel)

theorem prR : Pr 288230376151711447 := by
  refine lucas (a := 6) (by decide) (T_of (by decide) (by decide +kernel)) [2, 3, 8469779, 5671741379] ?_ (by decide) ?_
  · intro p hp
    simp only [List.mem_cons, List.not_mem_nil, or_false] at hp
    rcases hp with rfl | rfl | rfl | rfl
    · exact pr2
    · exact pr3
    · exact prA
    · exact prB
  · intro p hp
    simp only [List.mem_cons, List.not_mem_nil, or_false] at hp
    rcases hp with rfl | rfl | rfl | rfl <;> exact notT_of (by decide) (by decide +kernel)

theorem prQ : Pr Q := by
  refine lucas (a := 2) (by decide) (T_of (by decide) (by decide +kernel)) [2, 2, 288230376151711447] ?_ (by decide) ?_
  · intro p hp
    simp only [List.mem_cons, List.not_mem_nil, or_false] at hp
    rcases hp with rfl | rfl | rfl
    · exact pr2
    · exact pr2
    · exact prR
  · intro p hp
    simp only [List.mem_cons, List.not_mem_nil, or_false] at hp
    rcases hp with rfl | rfl | rfl <;> exact notT_of (by decide) (by decide +kernel)

theorem four_Q : 4 ^ Q % Pm = 1 := (T_of (a := 4) (n := Pm) (k := Q) (by decide) (by decide +kernel))

/-- no power of 4 is 1 ahead of the Q-th -/
theorem four_ne {x : Nat} (h1 : 1 ≤ x) (h2 : x < Q) : 4 ^ x % Pm ≠ 1 := by
  intro e
  have := order_is (a := 4) (n := Pm) (N := Q) (by decide) four_Q [Q] (by intro p hp; simp at hp; subst hp; exact prQ) (by decide) (by
    intro p hp; simp at hp; subst hp
    exact notT_of (by decide) (by decide +kernel)) x e
  have := Nat.le_of_dvd (by omega) this
  omega
end Go.Proofs.YtnebpmcmdmpoaaaDoor.Num
