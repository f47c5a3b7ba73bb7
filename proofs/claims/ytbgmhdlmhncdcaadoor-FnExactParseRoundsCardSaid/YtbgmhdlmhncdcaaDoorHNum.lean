/- Decimal numerals: which words spell numbers in the form in which numbers are written; no conditions. -/
import Derived.Lib.AtoiAllCases
import Derived.Lib.ItoaMem
import Derived.Lib.SplitLaws
import Derived.Lib.Join
namespace Go.Proofs.YtbgmhdlmhncdcaaDoor.Hand
open Go Go.Lib
set_option linter.unusedVariables false

def isDig (c : UInt8) : Bool := decide (48 ≤ c.toNat) && decide (c.toNat ≤ 57)
theorem isDig_iff (c : UInt8) : isDig c = true ↔ 48 ≤ c.toNat ∧ c.toNat ≤ 57 := by unfold isDig; simp
def val (l : List UInt8) : Nat := l.foldl (fun a c => a * 10 + (c.toNat - 48)) 0
theorem val_snoc (l : List UInt8) (c : UInt8) : val (l ++ [c]) = val l * 10 + (c.toNat - 48) := by unfold val; rw [List.foldl_append]; rfl
/-- Digits, at least one, and no nought ahead of others. -/
def canon : List UInt8 → Bool
  | [] => false
  | c :: r => (c :: r).all isDig && (r.isEmpty || decide (c.toNat ≠ 48))
theorem canon_cons (c : UInt8) (r : List UInt8) : canon (c :: r) = ((c :: r).all isDig && (r.isEmpty || decide (c.toNat ≠ 48))) := rfl
theorem dig_nat (d : Nat) (h : d < 10) : (UInt8.ofNat (48 + d)).toNat = 48 + d := by
  rw [UInt8.toNat_ofNat']
  exact Nat.mod_eq_of_lt (by omega)
theorem dig_back (c : UInt8) (h : isDig c = true) : UInt8.ofNat (48 + (c.toNat - 48)) = c := by
  have := (isDig_iff c).1 h
  rw [show 48 + (c.toNat - 48) = c.toNat by omega]
  simp
theorem digs_big (n : Nat) (h : ¬ n < 10) : decDigits n = decDigits (n / 10) ++ [UInt8.ofNat (48 + n % 10)] := by rw [decDigits.eq_def n, dif_neg h]
theorem parse_snoc (c : UInt8) (hc : isDig c = true) : ∀ (l : List UInt8) (acc u : Nat), parseUint10 acc l = .ok u → u * 10 + (c.toNat - 48) < 18446744073709551616 → parseUint10 acc (l ++ [c]) = .ok (u * 10 + (c.toNat - 48)) := by
  intro l
  have hc2 := (isDig_iff c).1 hc
  induction l with
  | nil =>
    intro acc u h hb
    simp only [parseUint10] at h
    injection h with h
    subst h
    simp only [List.nil_append, parseUint10]
    rw [if_pos hc2, if_neg (by omega), if_neg (by omega)]
  | cons b r ih =>
    intro acc u h hb
    simp only [parseUint10, List.cons_append] at h ⊢
    split at h
    · rename_i h1
      rw [if_pos h1]
      split at h
      · cases h
      · rename_i h2
        rw [if_neg h2]
        split at h
        · cases h
        · rename_i h3
          rw [if_neg h3]
          exact ih _ _ h hb
    · cases h
theorem parse_digs (n : Nat) (hn : n < 18446744073709551616) : parseUint10 0 (decDigits n) = .ok n := by
  induction n using Nat.strongRecOn with
  | _ n ih =>
    by_cases h : n < 10
    · rw [decDigits_one h]
      have e := dig_nat n h
      simp only [parseUint10]
      rw [if_pos (by omega), if_neg (by omega), if_neg (by omega), e]
      congr 1; omega
    · rw [digs_big n h]
      have e := dig_nat (n % 10) (by omega)
      have h1 := parse_snoc (UInt8.ofNat (48 + n % 10)) ((isDig_iff _).2 (by omega)) _ 0 _ (ih (n / 10) (by omega) (by omega)) (by rw [e]; omega)
      rw [h1, e]
      congr 1; omega
theorem digs_all (n : Nat) : (decDigits n).all isDig = true := by
  induction n using Nat.strongRecOn with
  | _ n ih =>
    by_cases h : n < 10
    · have e := dig_nat n h
      rw [decDigits_one h, List.all_cons, List.all_nil, Bool.and_true]
      exact (isDig_iff _).2 (by omega)
    · have e := dig_nat (n % 10) (by omega)
      rw [digs_big n h, List.all_append, ih _ (by omega), List.all_cons, List.all_nil, Bool.and_true, Bool.true_and]
      exact (isDig_iff _).2 (by omega)
theorem digs_ne (n : Nat) : decDigits n ≠ [] := by
  intro e
  have h := congrArg List.length e
  rw [decDigits_length] at h
  have := nDigits_pos n
  simp at h; omega
theorem digs_head (n : Nat) (h1 : 1 ≤ n) : ∃ c r, decDigits n = c :: r ∧ c.toNat ≠ 48 := by
  induction n using Nat.strongRecOn with
  | _ n ih =>
    by_cases h : n < 10
    · refine ⟨_, _, decDigits_one h, ?_⟩
      rw [dig_nat n h]; omega
    · obtain ⟨c, r, e, hc⟩ := ih (n / 10) (by omega) (by omega)
      refine ⟨c, r ++ [UInt8.ofNat (48 + n % 10)], ?_, hc⟩
      rw [digs_big n h, e]; rfl
theorem digs_canon (n : Nat) : canon (decDigits n) = true := by
  by_cases h0 : 1 ≤ n
  · obtain ⟨c, r, e, hc⟩ := digs_head n h0
    have ha := digs_all n
    rw [e] at ha ⊢
    rw [canon_cons, ha, decide_eq_true hc, Bool.or_true]; rfl
  · obtain rfl : n = 0 := by omega
    rw [decDigits_one (by omega)]; rfl
theorem digs_val (n : Nat) : val (decDigits n) = n := by
  induction n using Nat.strongRecOn with
  | _ n ih =>
    by_cases h : n < 10
    · have e := dig_nat n h
      rw [decDigits_one h]
      show 0 * 10 + ((UInt8.ofNat (48 + n)).toNat - 48) = n
      rw [e]; omega
    · have e := dig_nat (n % 10) (by omega)
      rw [digs_big n h, val_snoc, ih _ (by omega), e]; omega
theorem fold_pos (l : List UInt8) : ∀ a : Nat, 1 ≤ a → 1 ≤ l.foldl (fun a c => a * 10 + (c.toNat - 48)) a := by
  induction l with
  | nil => intro a h; exact h
  | cons c r ih => intro a h; exact ih (a * 10 + (c.toNat - 48)) (by omega)
theorem val_pos (c : UInt8) (r : List UInt8) (h : isDig c = true) (h2 : c.toNat ≠ 48) : 1 ≤ val (c :: r) := by
  have := (isDig_iff c).1 h
  exact fold_pos r _ (by show 1 ≤ 0 * 10 + (c.toNat - 48); omega)
theorem canon_snoc (l : List UInt8) (c : UInt8) (h : canon (l ++ [c]) = true) : isDig c = true ∧ (l = [] ∨ (canon l = true ∧ 1 ≤ val l)) := by
  cases l with
  | nil =>
    unfold canon at h
    simp at h
    exact ⟨h, .inl rfl⟩
  | cons b r =>
    rw [List.cons_append] at h
    unfold canon at h
    rw [Bool.and_eq_true, List.all_cons, List.all_append, Bool.and_eq_true, Bool.and_eq_true] at h
    obtain ⟨⟨h1, h2, h3⟩, h4⟩ := h
    simp at h3
    have h5 : b.toNat ≠ 48 := by
      have e : (r ++ [c]).isEmpty = false := by cases r <;> rfl
      rw [e, Bool.false_or] at h4
      exact of_decide_eq_true h4
    refine ⟨h3, .inr ⟨?_, val_pos b r h1 h5⟩⟩
    rw [canon_cons, List.all_cons, h1, h2, decide_eq_true h5, Bool.or_true]; rfl
theorem canon_digs (n : Nat) : ∀ l : List UInt8, l.length = n → canon l = true → decDigits (val l) = l := by
  induction n with
  | zero =>
    intro l hl h
    obtain rfl := List.length_eq_zero_iff.1 hl
    exact absurd h (by decide)
  | succ n ih =>
    intro l hl h
    have hne : l ≠ [] := by intro e; rw [e] at hl; simp at hl
    obtain ⟨l', c, rfl⟩ : ∃ l' c, l = l' ++ [c] := ⟨l.dropLast, l.getLast hne, (List.dropLast_concat_getLast hne).symm⟩
    have hlen : l'.length = n := by rw [List.length_append, List.length_singleton] at hl; omega
    obtain ⟨hd, hc⟩ := canon_snoc l' c h
    have hcd := (isDig_iff c).1 hd
    rw [val_snoc]
    rcases hc with rfl | ⟨hc1, hc2⟩
    · show decDigits (0 * 10 + (c.toNat - 48)) = [c]
      rw [decDigits_one (by omega), Nat.zero_mul, Nat.zero_add, dig_back c hd]
    · rw [digs_big _ (by omega), show (val l' * 10 + (c.toNat - 48)) / 10 = val l' by omega, show (val l' * 10 + (c.toNat - 48)) % 10 = c.toNat - 48 by omega, ih l' hlen hc1, dig_back c hd]
theorem canon_own (l : List UInt8) (h : canon l = true) : decDigits (val l) = l := canon_digs _ l rfl h

/-- The number that a word spells, if it is the number's own numeral. -/
def wordNum (l : List UInt8) : Option Int := match atoiAll l with
  | .ok n => if itoa n = l then some n else none
  | _ => none
theorem atoi_digs (n : Nat) (hn : n < 9223372036854775808) : atoiAll (decDigits n) = .ok n := by
  have hp := parse_digs n (by omega)
  have ha := digs_all n
  cases h : decDigits n with
  | nil => exact absurd h (digs_ne n)
  | cons c r =>
    rw [h] at hp ha
    rw [List.all_cons, Bool.and_eq_true] at ha
    have hc := (isDig_iff c).1 ha.1
    rw [atoiAll_plain c r (by omega) (by omega)]
    unfold parseMag
    rw [if_neg (by simp), hp]
    unfold signless
    simp only []
    rw [if_neg (by omega)]
theorem wordNum_digs (n : Nat) (hn : n < 9223372036854775808) : wordNum (decDigits n) = some (n : Int) := by
  unfold wordNum
  rw [atoi_digs n hn]
  simp only []
  rw [if_pos (itoa_nonneg n)]
theorem wordNum_own (l : List UInt8) (v : Int) (h : wordNum l = some v) : itoa v = l ∧ -9223372036854775808 ≤ v ∧ v ≤ 9223372036854775807 := by
  unfold wordNum at h
  split at h
  · rename_i n hn
    split at h
    · rename_i h2
      injection h with h
      subst h
      exact ⟨h2, atoiAll_bounds hn⟩
    · cases h
  · cases h
theorem wordNum_nat (l : List UInt8) (v : Int) (h : wordNum l = some v) (h0 : 0 ≤ v) : l = decDigits v.toNat ∧ canon l = true ∧ (val l : Int) = v := by
  obtain ⟨h1, _⟩ := wordNum_own l v h
  obtain ⟨n, rfl⟩ := Int.eq_ofNat_of_zero_le h0
  rw [itoa_nonneg] at h1
  subst h1
  rw [Int.toNat_natCast]
  exact ⟨rfl, digs_canon n, by rw [digs_val]⟩
/-- What the reference reads: words of one to six digits. -/
def readNum (l : List UInt8) : Int := if canon l = true ∧ l.length ≤ 6 then (val l : Int) else -1
theorem fold_lt (l : List UInt8) : ∀ a : Nat, l.all isDig = true → l.foldl (fun a c => a * 10 + (c.toNat - 48)) a < (a + 1) * 10 ^ l.length := by
  induction l with
  | nil => intro a _; show a < (a + 1) * 1; omega
  | cons c r ih =>
    intro a h
    rw [List.all_cons, Bool.and_eq_true] at h
    have h1 := (isDig_iff c).1 h.1
    have h2 := ih (a * 10 + (c.toNat - 48)) h.2
    have h3 : (a * 10 + (c.toNat - 48) + 1) * 10 ^ r.length ≤ ((a + 1) * 10) * 10 ^ r.length := Nat.mul_le_mul_right _ (by omega)
    have h4 : ((a + 1) * 10) * 10 ^ r.length = (a + 1) * 10 ^ (c :: r).length := by rw [List.length_cons, Nat.pow_succ, Nat.mul_assoc, Nat.mul_comm 10]
    rw [List.foldl_cons]
    omega
theorem val_lt (l : List UInt8) (h : l.all isDig = true) : val l < 10 ^ l.length := by
  have := fold_lt l 0 h
  unfold val
  rw [Nat.zero_add, Nat.one_mul] at this
  exact this
theorem canon_all {l : List UInt8} (h : canon l = true) : l.all isDig = true := by
  cases l with
  | nil => rfl
  | cons c r => unfold canon at h; rw [Bool.and_eq_true] at h; exact h.1
theorem readNum_of {l : List UInt8} {v : Int} (h : readNum l = v) (h0 : 0 ≤ v) : wordNum l = some v ∧ v < 1000000 := by
  unfold readNum at h
  split at h
  · rename_i h1
    subst h
    have h2 := val_lt l (canon_all h1.1)
    have h3 : 10 ^ l.length ≤ 10 ^ 6 := Nat.pow_le_pow_right (by omega) h1.2
    have h4 := wordNum_digs (val l) (by omega)
    rw [canon_own l h1.1] at h4
    exact ⟨h4, by omega⟩
  · omega
theorem ndig_le (n k : Nat) (hk : 1 ≤ k) (h : n < 10 ^ k) : nDigits n ≤ k := by
  induction n using Nat.strongRecOn generalizing k with
  | _ n ih =>
    by_cases h9 : n < 10
    · rw [nDigits_small h9]; exact hk
    · rw [nDigits_big h9]
      obtain ⟨j, rfl⟩ : ∃ j, k = j + 1 := ⟨k - 1, by omega⟩
      rw [Nat.pow_succ] at h
      by_cases hj : j = 0
      · subst hj; simp at h; omega
      · have := ih (n / 10) (by omega) j (by omega) (by omega)
        omega
theorem readNum_to {l : List UInt8} {v : Int} (h : wordNum l = some v) (h0 : 0 ≤ v) (h1 : v < 1000000) : readNum l = v := by
  obtain ⟨h2, h3, h4⟩ := wordNum_nat l v h h0
  have h5 := congrArg List.length h2
  rw [decDigits_length] at h5
  have h6 := ndig_le v.toNat 6 (by omega) (by omega)
  unfold readNum
  rw [if_pos ⟨h3, by omega⟩, h4]
/-- The number that a word is taken for by the reference lies between bounds just where it is the number that the program takes it for. -/
theorem read_word (l : List UInt8) (lo hi : Int) (h0 : 0 ≤ lo) (h1 : hi < 1000000) : (lo ≤ readNum l ∧ readNum l ≤ hi) ↔ ∃ v, wordNum l = some v ∧ lo ≤ v ∧ v ≤ hi := by
  constructor
  · intro ⟨a, b⟩
    exact ⟨readNum l, (readNum_of rfl (by omega)).1, a, b⟩
  · rintro ⟨v, hv, a, b⟩
    rw [readNum_to hv (by omega) (by omega)]
    exact ⟨a, b⟩

/-! ### words with one sign between -/
/-- A text cut at each sign. -/
def cutAt (c : UInt8) : List UInt8 → List (List UInt8)
  | [] => [[]]
  | b :: l => if b = c then [] :: cutAt c l else match cutAt c l with
    | [] => [[b]]
    | x :: r => (b :: x) :: r
theorem cutAt_ne (c : UInt8) (l : List UInt8) : cutAt c l ≠ [] := by
  cases l with
  | nil => simp [cutAt]
  | cons b l =>
    unfold cutAt
    split
    · simp
    · split <;> simp
theorem cutAt_sign (c : UInt8) (l : List UInt8) : cutAt c (c :: l) = [] :: cutAt c l := by rw [cutAt, if_pos rfl]
theorem cutAt_more (c b : UInt8) (l : List UInt8) (h : b ≠ c) (x : List UInt8) (r : List (List UInt8)) (e : cutAt c l = x :: r) : cutAt c (b :: l) = (b :: x) :: r := by rw [cutAt, if_neg h, e]
/-- A word without the sign, ahead of a text. -/
theorem cutAt_word (c : UInt8) (x l : List UInt8) (h : c ∉ x) : cutAt c (x ++ c :: l) = x :: cutAt c l := by
  induction x with
  | nil => exact cutAt_sign c l
  | cons b r ih =>
    rw [List.cons_append]
    exact cutAt_more c b _ (fun e => h (by rw [e]; exact List.mem_cons_self ..)) _ _ (ih fun m => h (List.mem_cons_of_mem _ m))
theorem cutAt_last (c : UInt8) (x : List UInt8) (h : c ∉ x) : cutAt c x = [x] := by
  induction x with
  | nil => rfl
  | cons b r ih => exact cutAt_more c b _ (fun e => h (by rw [e]; exact List.mem_cons_self ..)) _ _ (ih fun m => h (List.mem_cons_of_mem _ m))
theorem cutAt_join (c : UInt8) (l : List UInt8) : join (cutAt c l) [c] = l := by
  induction l with
  | nil => rfl
  | cons b l ih =>
    by_cases h : b = c
    · subst h
      rw [cutAt_sign]
      cases e : cutAt b l with
      | nil => exact absurd e (cutAt_ne b l)
      | cons x r =>
        rw [e] at ih
        rw [join_cons] at ih ⊢
        rw [← ih]
        unfold joinTail
        simp
    · cases e : cutAt c l with
      | nil => exact absurd e (cutAt_ne c l)
      | cons x r =>
        rw [e] at ih
        rw [cutAt_more c b l h x r e]
        rw [join_cons] at ih ⊢
        rw [← ih]
        simp
theorem occ_one (s : List UInt8) (c : UInt8) (j : Nat) : occAt s [c] j = true ↔ s[j]? = some c := by
  unfold occAt
  rw [← List.head?_drop]
  cases s.drop j with
  | nil => simp
  | cons b r =>
    simp [List.isPrefixOf]
    exact eq_comm
theorem cut_index (s : List UInt8) (c : UInt8) : (index s [c] = -1 ∧ c ∉ s) ∨ ∃ i : Nat, index s [c] = i ∧ s = s.take i ++ c :: s.drop (i + 1) ∧ c ∉ s.take i ∧ i < s.length := by
  rcases index_spec s [c] with ⟨h1, h2⟩ | ⟨i, h1, h2, h3, h4⟩
  · refine .inl ⟨h1, fun h => ?_⟩
    obtain ⟨j, hj, e⟩ := List.getElem_of_mem h
    have h5 := h2 j (by omega)
    rw [(occ_one s c j).2 (by rw [List.getElem?_eq_getElem hj, e])] at h5
    cases h5
  · have h5 := (occ_one s c i).1 h3
    obtain ⟨h6, h7⟩ := List.getElem?_eq_some_iff.1 h5
    refine .inr ⟨i, h1, ?_, fun h => ?_, h6⟩
    · rw [← h7, ← List.drop_eq_getElem_cons h6, List.take_append_drop]
    · obtain ⟨j, hj, e⟩ := List.getElem_of_mem h
      rw [List.length_take] at hj
      have h8 := h4 j (by omega)
      rw [List.getElem_take] at e
      rw [(occ_one s c j).2 (by rw [List.getElem?_eq_getElem (by omega), e])] at h8
      cases h8
theorem count_notin {c : UInt8} {l : List UInt8} (h : c ∉ l) : l.count c = 0 := List.count_eq_zero.2 h
theorem splitK_cut (c : UInt8) (n : Nat) : ∀ s : List UInt8, s.length ≤ n → ∀ k, s.count c ≤ k → splitK [c] 0 k s = cutAt c s := by
  induction n with
  | zero =>
    intro s hs k _
    obtain rfl := List.length_eq_zero_iff.1 (Nat.le_zero.1 hs)
    cases k with
    | zero => rfl
    | succ k => rfl
  | succ n ih =>
    intro s hs k hk
    rcases cut_index s c with ⟨h1, h2⟩ | ⟨i, h1, h2, h3, h4⟩
    · rw [cutAt_last c s h2]
      cases k with
      | zero => rfl
      | succ k => unfold splitK; rw [if_pos (beq_iff_eq.2 h1)]
    · have hc : s.count c = 1 + (s.drop (i + 1)).count c := by
        have e := congrArg (List.count c) h2
        rw [List.count_append, count_notin h3, List.count_cons_self] at e
        omega
      obtain ⟨k, rfl⟩ : ∃ j, k = j + 1 := ⟨k - 1, by omega⟩
      have hx : cutAt c s = s.take i :: cutAt c (s.drop (i + 1)) := by
        have := cutAt_word c (s.take i) (s.drop (i + 1)) h3
        rw [← h2] at this
        exact this
      unfold splitK
      rw [if_neg (fun e => by have := beq_iff_eq.1 e; omega), h1, Int.toNat_natCast, hx, Nat.add_zero]
      congr 1
      show splitK [c] 0 k (s.drop (i + 1)) = _
      exact ih _ (by rw [List.length_drop]; omega) k (by omega)
theorem splitK_len (c : UInt8) : ∀ (k : Nat) (s : List UInt8), k ≤ s.count c → (splitK [c] 0 k s).length = k + 1 := by
  intro k
  induction k with
  | zero => intro s _; rfl
  | succ k ih =>
    intro s hk
    rcases cut_index s c with ⟨h1, h2⟩ | ⟨i, h1, h2, h3, h4⟩
    · rw [count_notin h2] at hk; omega
    · have hc : s.count c = 1 + (s.drop (i + 1)).count c := by
        have e := congrArg (List.count c) h2
        rw [List.count_append, count_notin h3, List.count_cons_self] at e
        omega
      unfold splitK
      rw [if_neg (fun e => by have := beq_iff_eq.1 e; omega), h1, Int.toNat_natCast]
      show (splitK [c] 0 k (s.drop (i + 1))).length + 1 = _
      rw [ih (s.drop (i + 1)) (by omega)]
theorem cutAt_len (c : UInt8) (s : List UInt8) : (cutAt c s).length = s.count c + 1 := by
  rw [← splitK_cut c s.length s (Nat.le_refl _) (s.count c) (Nat.le_refl _), splitK_len c _ s (Nat.le_refl _)]
end Go.Proofs.YtbgmhdlmhncdcaaDoor.Hand
