/- The first reference's helpers. No condition. -/
import Derived.Test.YtjeiboididfgmaaGreatDoorVl
set_option linter.unusedVariables false
set_option linter.unusedSimpArgs false
set_option linter.defProp false
set_option maxRecDepth 100000
namespace Go.V
open Go Go.Proofs.Tryz

section
variable {G : GT} {H : HM}
theorem in_c (n low high : Int) : PureF prog G 44 [.int n, .int low, .int high] H (.bool (decide (low ≤ n) && decide (n ≤ high))) := by
  refine Pure_body (fn := f44) func44 rfl (by kernel_rfl) (by kernel_rfl) (Nat.le_of_ble_eq_true (by kernel_rfl)) fun K hk => ?_
  first | refine VW_reg [] fun N E hN hE => ?_ | (refine VW_seq ?_; refine VW_reg [] fun N E hN hE => ?_) | (refine VW_seq ?_; refine VW_seq ?_; refine VW_reg [] fun N E hN hE => ?_) | (refine VW_seq ?_; refine VW_seq ?_; refine VW_seq ?_; refine VW_reg [] fun N E hN hE => ?_) | refine VW_regE [] fun N E hN hE => ?_ | (refine VW_seq ?_; refine VW_regE [] fun N E hN hE => ?_)
  simp (decide := true) only [VS, WS, TS, ES, ↓reduceIte, Nat.reduceAdd]
  refine hN _ ?_
  clear hN hE N E
  by_cases h1 : low ≤ n
  · first | refine VW_reg [] fun N E hN hE => ?_ | (refine VW_seq ?_; refine VW_reg [] fun N E hN hE => ?_) | (refine VW_seq ?_; refine VW_seq ?_; refine VW_reg [] fun N E hN hE => ?_) | (refine VW_seq ?_; refine VW_seq ?_; refine VW_seq ?_; refine VW_reg [] fun N E hN hE => ?_) | refine VW_regE [] fun N E hN hE => ?_ | (refine VW_seq ?_; refine VW_regE [] fun N E hN hE => ?_)
    simp (decide := true) only [VS, WS, TS, ES, ↓reduceIte, Nat.reduceAdd, h1, decide_true]
    refine hN _ ?_
    clear hN hE N E
    refine VW_ret (Fin_ret1 6 rfl ?_)
    simp (decide := true) only [upd_eq, putT_some, WS, ES, ↓reduceIte, Nat.reduceAdd]
    simpa only [h1, decide_true, Bool.true_and] using hk
  · first | refine VW_reg [] fun N E hN hE => ?_ | (refine VW_seq ?_; refine VW_reg [] fun N E hN hE => ?_) | (refine VW_seq ?_; refine VW_seq ?_; refine VW_reg [] fun N E hN hE => ?_) | (refine VW_seq ?_; refine VW_seq ?_; refine VW_seq ?_; refine VW_reg [] fun N E hN hE => ?_) | refine VW_regE [] fun N E hN hE => ?_ | (refine VW_seq ?_; refine VW_regE [] fun N E hN hE => ?_)
    simp (decide := true) only [VS, WS, TS, ES, ↓reduceIte, Nat.reduceAdd, h1, decide_false]
    refine hN _ ?_
    clear hN hE N E
    refine VW_ret (Fin_ret1 6 rfl ?_)
    simp (decide := true) only [upd_eq, putT_some, WS, ES, ↓reduceIte, Nat.reduceAdd]
    simpa only [h1, decide_false, Bool.false_and] using hk

/-- The first index of a string, or -1. -/
def index : List ByteArray → ByteArray → Int
  | [], _ => -1
  | x :: l, s => if x = s then 0 else let k := index l s; if k < 0 then -1 else k + 1
theorem idx_some : ∀ {l : List ByteArray} {s : ByteArray} {k : Nat} (hk : k < l.length), (∀ j, j < k → l[j]? ≠ some s) → l[k] = s → index l s = k
  | x :: l, s, 0, _, _, he => by simp at he; simp [index, he]
  | x :: l, s, k + 1, hk, h, he => by
    have hx : x ≠ s := by have := h 0 (by omega); simpa using this
    have ih := idx_some (l := l) (s := s) (k := k) (by simpa using hk) (fun j hj => by simpa using h (j + 1) (by omega)) (by simpa using he)
    simp only [index, if_neg hx, ih]
    rw [if_neg (by omega)]; simp
theorem idx_none : ∀ {l : List ByteArray} {s : ByteArray}, (∀ j, j < l.length → l[j]? ≠ some s) → index l s = -1
  | [], s, _ => rfl
  | x :: l, s, h => by
    have hx : x ≠ s := by have := h 0 (by simp); simpa using this
    have ih := idx_none (l := l) (s := s) (fun j hj => by simpa using h (j + 1) (by simpa using hj))
    simp only [index, if_neg hx, ih]; rfl
theorem index_c (l : List ByteArray) (s : ByteArray) (hl : l.length ≤ lim) : PureF prog G 54 [.list (strs l), .str s] H (.int (index l s)) := by
  refine Pure_body (fn := f54) func54 rfl (by kernel_rfl) (by kernel_rfl) (Nat.le_of_ble_eq_true (by kernel_rfl)) fun K hk => ?_
  first | refine VW_reg [] fun N E hN hE => ?_ | (refine VW_seq ?_; refine VW_reg [] fun N E hN hE => ?_) | (refine VW_seq ?_; refine VW_seq ?_; refine VW_reg [] fun N E hN hE => ?_) | (refine VW_seq ?_; refine VW_seq ?_; refine VW_seq ?_; refine VW_reg [] fun N E hN hE => ?_) | refine VW_regE [] fun N E hN hE => ?_ | (refine VW_seq ?_; refine VW_regE [] fun N E hN hE => ?_)
  simp (decide := true) only [VS, WS, TS, ES, ↓reduceIte, Nat.reduceAdd]
  refine hN _ ?_
  clear hN hE N E
  refine VW_seq ?_
  first | refine VW_reg [] fun N E hN hE => ?_ | (refine VW_seq ?_; refine VW_reg [] fun N E hN hE => ?_) | (refine VW_seq ?_; refine VW_seq ?_; refine VW_reg [] fun N E hN hE => ?_) | (refine VW_seq ?_; refine VW_seq ?_; refine VW_seq ?_; refine VW_reg [] fun N E hN hE => ?_) | refine VW_regE [] fun N E hN hE => ?_ | (refine VW_seq ?_; refine VW_regE [] fun N E hN hE => ?_)
  simp (decide := true) only [VS, WS, TS, ES, ↓reduceIte, Nat.reduceAdd]
  refine hN _ ?_
  clear hN hE N E
  refine VW_block ?_
  refine VW_loopI (fun k s' => k ≤ l.length ∧ (∀ j, j < k → l[j]? ≠ some s) ∧ s'.tmps 0 = .list (strs l) ∧ s'.tmps 1 = .str s ∧ s'.tmps 5 = .int k ∧ s'.H = H ∧ s'.defs = []) (fun k => l.length - k) 0 ⟨Nat.zero_le _, by simp, rfl, rfl, rfl, rfl, rfl⟩ ?_
  rintro k ⟨tm, H', ds⟩ ⟨hk1, hk2, h0, h1, h5, rfl, rfl⟩
  refine VW_know 0 _ h0 (VW_know 1 _ h1 (VW_know 5 _ h5 ?_))
  refine VW_seq ?_
  first | refine VW_reg [] fun N E hN hE => ?_ | (refine VW_seq ?_; refine VW_reg [] fun N E hN hE => ?_) | (refine VW_seq ?_; refine VW_seq ?_; refine VW_reg [] fun N E hN hE => ?_) | (refine VW_seq ?_; refine VW_seq ?_; refine VW_seq ?_; refine VW_reg [] fun N E hN hE => ?_) | refine VW_regE [] fun N E hN hE => ?_ | (refine VW_seq ?_; refine VW_regE [] fun N E hN hE => ?_)
  simp (decide := true) only [VS, WS, TS, ES, ↓reduceIte, Nat.reduceAdd]
  refine hN _ ?_
  clear hN hE N E
  refine VW_if rfl (fun hc => ?_) (fun hc => ?_)
  · have hlt : k < l.length := by simpa [strs_len] using hc
    refine VW_skip ?_
    refine VW_seq ?_
    refine VW_block ?_
    first | refine VW_reg [] fun N E hN hE => ?_ | (refine VW_seq ?_; refine VW_reg [] fun N E hN hE => ?_) | (refine VW_seq ?_; refine VW_seq ?_; refine VW_reg [] fun N E hN hE => ?_) | (refine VW_seq ?_; refine VW_seq ?_; refine VW_seq ?_; refine VW_reg [] fun N E hN hE => ?_) | refine VW_regE [] fun N E hN hE => ?_ | (refine VW_seq ?_; refine VW_regE [] fun N E hN hE => ?_)
    simp (decide := true) only [VS, WS, TS, ES, ↓reduceIte, Nat.reduceAdd, strs_at hlt, nat0, Int.toNat_natCast]
    refine hN _ ?_
    clear hN hE N E
    refine VW_if rfl (fun hc => ?_) (fun hc => ?_)
    · first | refine VW_reg [] fun N E hN hE => ?_ | (refine VW_seq ?_; refine VW_reg [] fun N E hN hE => ?_) | (refine VW_seq ?_; refine VW_seq ?_; refine VW_reg [] fun N E hN hE => ?_) | (refine VW_seq ?_; refine VW_seq ?_; refine VW_seq ?_; refine VW_reg [] fun N E hN hE => ?_) | refine VW_regE [] fun N E hN hE => ?_ | (refine VW_seq ?_; refine VW_regE [] fun N E hN hE => ?_)
      simp (decide := true) only [VS, WS, TS, ES, ↓reduceIte, Nat.reduceAdd]
      refine hN _ ?_
      clear hN hE N E
      refine VW_ret (Fin_ret1 4 rfl ?_)
      simp (decide := true) only [upd_eq, putT_some, WS, ES, ↓reduceIte, Nat.reduceAdd]
      rwa [idx_some hlt hk2 (by simpa using hc)] at hk
    · refine VW_skip ?_
      refine VW_regE [] fun N E hN hE => ?_
      simp (decide := true) only [VS, WS, TS, ES, ↓reduceIte, Nat.reduceAdd, wrapN (show k < 9223372036854775807 by unfold lim at hl; omega)]
      refine hN _ ?_
      clear hN hE N E
      refine ⟨k + 1, ⟨hlt, ?_, rfl, rfl, rfl, rfl, rfl⟩, ?_⟩
      · intro j hj
        rcases Nat.lt_succ_iff_lt_or_eq.1 hj with h | rfl
        · exact hk2 j h
        · simpa [hlt] using hc
      · omega
  · refine VW_exit ?_
    first | refine VW_reg [] fun N E hN hE => ?_ | (refine VW_seq ?_; refine VW_reg [] fun N E hN hE => ?_) | (refine VW_seq ?_; refine VW_seq ?_; refine VW_reg [] fun N E hN hE => ?_) | (refine VW_seq ?_; refine VW_seq ?_; refine VW_seq ?_; refine VW_reg [] fun N E hN hE => ?_) | refine VW_regE [] fun N E hN hE => ?_ | (refine VW_seq ?_; refine VW_regE [] fun N E hN hE => ?_)
    simp (decide := true) only [VS, WS, TS, ES, ↓reduceIte, Nat.reduceAdd]
    refine hN _ ?_
    clear hN hE N E
    refine VW_ret (Fin_ret1 4 rfl ?_)
    simp (decide := true) only [upd_eq, putT_some, WS, ES, ↓reduceIte, Nat.reduceAdd]
    rwa [idx_none (fun j hj => hk2 j (by simp [strs_len] at hc; omega))] at hk

def has (l : List ByteArray) (s : ByteArray) : Bool := l.any fun x => decide (x = s)
theorem index_has : ∀ (l : List ByteArray) (s : ByteArray), decide (0 ≤ index l s) = has l s
  | [], s => rfl
  | x :: l, s => by
    have ih := index_has l s
    by_cases hx : x = s
    · simp [index, has, hx]
    · simp only [has, List.any_cons, hx, decide_false, Bool.false_or]
      rw [show (l.any fun x => decide (x = s)) = has l s from rfl, ← ih]
      simp only [index, if_neg hx]
      by_cases h : index l s < 0
      · rw [if_pos h, decide_eq_false (by omega), decide_eq_false (by omega)]
      · rw [if_neg h, decide_eq_true (by omega), decide_eq_true (by omega)]
theorem has_c (l : List ByteArray) (s : ByteArray) (hl : l.length ≤ lim) : PureF prog G 51 [.list (strs l), .str s] H (.bool (has l s)) := by
  refine Pure_body (fn := f51) func51 rfl (by kernel_rfl) (by kernel_rfl) (Nat.le_of_ble_eq_true (by kernel_rfl)) fun K hk => ?_
  first | refine VW_reg [] fun N E hN hE => ?_ | (refine VW_seq ?_; refine VW_reg [] fun N E hN hE => ?_) | (refine VW_seq ?_; refine VW_seq ?_; refine VW_reg [] fun N E hN hE => ?_) | (refine VW_seq ?_; refine VW_seq ?_; refine VW_seq ?_; refine VW_reg [] fun N E hN hE => ?_) | refine VW_regE [] fun N E hN hE => ?_ | (refine VW_seq ?_; refine VW_regE [] fun N E hN hE => ?_)
  simp (decide := true) only [VS, WS, TS, ES, ↓reduceIte, Nat.reduceAdd]
  refine hN _ ?_
  clear hN hE N E
  refine VW_reg [] fun N E hN hE => ?_
  simp (decide := true) only [VS, WS, TS, ES, ↓reduceIte, Nat.reduceAdd]
  refine wcall_pure (index_c l s hl) ?_
  simp (decide := true) only [VS, WS, TS, ES, ↓reduceIte, Nat.reduceAdd]
  refine hN _ ?_
  clear hN hE N E
  refine VW_ret (Fin_ret1 4 rfl ?_)
  simp (decide := true) only [upd_eq, putT_some, WS, ES, ↓reduceIte, Nat.reduceAdd]
  rwa [index_has]

def without (l : List ByteArray) (s : ByteArray) : List ByteArray := l.filter fun x => !decide (x = s)
theorem without_snoc (l : List ByteArray) (x s : ByteArray) : without (l ++ [x]) s = if x = s then without l s else without l s ++ [x] := by
  unfold without; rw [List.filter_append]; by_cases h : x = s <;> simp [h]
theorem without_c (l : List ByteArray) (s : ByteArray) (hl : l.length ≤ lim) : PureF prog G 50 [.list (strs l), .str s] H (.list (strs (without l s))) := by
  refine Pure_body (fn := f50) func50 rfl (by kernel_rfl) (by kernel_rfl) (Nat.le_of_ble_eq_true (by kernel_rfl)) fun K hk => ?_
  first | refine VW_reg [] fun N E hN hE => ?_ | (refine VW_seq ?_; refine VW_reg [] fun N E hN hE => ?_) | (refine VW_seq ?_; refine VW_seq ?_; refine VW_reg [] fun N E hN hE => ?_) | (refine VW_seq ?_; refine VW_seq ?_; refine VW_seq ?_; refine VW_reg [] fun N E hN hE => ?_) | refine VW_regE [] fun N E hN hE => ?_ | (refine VW_seq ?_; refine VW_regE [] fun N E hN hE => ?_)
  simp (decide := true) only [VS, WS, TS, ES, ↓reduceIte, Nat.reduceAdd]
  refine hN _ ?_
  clear hN hE N E
  first | refine VW_reg [] fun N E hN hE => ?_ | (refine VW_seq ?_; refine VW_reg [] fun N E hN hE => ?_) | (refine VW_seq ?_; refine VW_seq ?_; refine VW_reg [] fun N E hN hE => ?_) | (refine VW_seq ?_; refine VW_seq ?_; refine VW_seq ?_; refine VW_reg [] fun N E hN hE => ?_) | refine VW_regE [] fun N E hN hE => ?_ | (refine VW_seq ?_; refine VW_regE [] fun N E hN hE => ?_)
  simp (decide := true) only [VS, WS, TS, ES, ↓reduceIte, Nat.reduceAdd]
  refine hN _ ?_
  clear hN hE N E
  refine VW_seq ?_
  first | refine VW_reg [] fun N E hN hE => ?_ | (refine VW_seq ?_; refine VW_reg [] fun N E hN hE => ?_) | (refine VW_seq ?_; refine VW_seq ?_; refine VW_reg [] fun N E hN hE => ?_) | (refine VW_seq ?_; refine VW_seq ?_; refine VW_seq ?_; refine VW_reg [] fun N E hN hE => ?_) | refine VW_regE [] fun N E hN hE => ?_ | (refine VW_seq ?_; refine VW_regE [] fun N E hN hE => ?_)
  simp (decide := true) only [VS, WS, TS, ES, ↓reduceIte, Nat.reduceAdd]
  refine hN _ ?_
  clear hN hE N E
  refine VW_block ?_
  refine VW_loopI (fun k s' => k ≤ l.length ∧ s'.tmps 0 = .list (strs l) ∧ s'.tmps 1 = .str s ∧ s'.tmps 6 = .int k ∧ OutG H s'.H (s'.tmps 5) 9 1 (strs (without (l.take k) s)) ∧ s'.defs = []) (fun k => l.length - k) 0 ⟨Nat.zero_le _, rfl, rfl, rfl, OutG.nil (Drop.refl H) 9 1, rfl⟩ ?_
  rintro k ⟨tm, H', ds⟩ ⟨hk1, h0, h1, h6, ho, rfl⟩
  simp only at ho
  generalize h5 : tm 5 = out at ho
  refine VW_know 0 _ h0 (VW_know 1 _ h1 (VW_know 6 _ h6 (VW_know 5 _ h5 ?_)))
  refine VW_seq ?_
  first | refine VW_reg [] fun N E hN hE => ?_ | (refine VW_seq ?_; refine VW_reg [] fun N E hN hE => ?_) | (refine VW_seq ?_; refine VW_seq ?_; refine VW_reg [] fun N E hN hE => ?_) | (refine VW_seq ?_; refine VW_seq ?_; refine VW_seq ?_; refine VW_reg [] fun N E hN hE => ?_) | refine VW_regE [] fun N E hN hE => ?_ | (refine VW_seq ?_; refine VW_regE [] fun N E hN hE => ?_)
  simp (decide := true) only [VS, WS, TS, ES, ↓reduceIte, Nat.reduceAdd]
  refine hN _ ?_
  clear hN hE N E
  refine VW_if rfl (fun hc => ?_) (fun hc => ?_)
  · have hlt : k < l.length := by simpa [strs_len] using hc
    have htk : l.take (k + 1) = l.take k ++ [l[k]] := by simp
    refine VW_skip ?_
    refine VW_seq ?_
    refine VW_block ?_
    first | refine VW_reg [] fun N E hN hE => ?_ | (refine VW_seq ?_; refine VW_reg [] fun N E hN hE => ?_) | (refine VW_seq ?_; refine VW_seq ?_; refine VW_reg [] fun N E hN hE => ?_) | (refine VW_seq ?_; refine VW_seq ?_; refine VW_seq ?_; refine VW_reg [] fun N E hN hE => ?_) | refine VW_regE [] fun N E hN hE => ?_ | (refine VW_seq ?_; refine VW_regE [] fun N E hN hE => ?_)
    simp (decide := true) only [VS, WS, TS, ES, ↓reduceIte, Nat.reduceAdd, strs_at hlt, nat0, Int.toNat_natCast]
    refine hN _ ?_
    clear hN hE N E
    refine VW_if rfl (fun hc => ?_) (fun hc => ?_)
    · refine VW_regE [] fun N E hN hE => ?_
      simp (decide := true) only [VS, WS, TS, ES, ↓reduceIte, Nat.reduceAdd, strs_at hlt, nat0, Int.toNat_natCast]
      refine ⟨bs_ok (by kernel_rfl) (all_one ⟨rfl, rfl⟩), ?_⟩
      refine vappend_out (by kernel_rfl) ho rfl (fun _ _ _ e => by cases e) (all_one rfl) ?_ fun v' H1 ho' => ?_
      · have := List.length_filter_le (fun x => !decide (x = s)) (l.take k)
        simp [strs_len, without] at *
        omega
      rw [kont_ret]
      simp (decide := true) only [VS, WS, TS, ES, ↓reduceIte, Nat.reduceAdd]
      refine hN _ ?_
      clear hN hE N E
      refine VW_regE [] fun N E hN hE => ?_
      simp (decide := true) only [VS, WS, TS, ES, ↓reduceIte, Nat.reduceAdd, wrapN (show k < 9223372036854775807 by unfold lim at hl; omega)]
      refine hN _ ?_
      clear hN hE N E
      refine ⟨k + 1, ⟨hlt, rfl, rfl, rfl, ?_, rfl⟩, by omega⟩
      simp (decide := true) only [upd_eq, putT_some, WS, ES, ↓reduceIte, Nat.reduceAdd]
      rw [htk]
      rw [without_snoc, if_neg (by simpa using hc)]; simpa [strs] using ho'
    · refine VW_skip ?_
      refine VW_regE [] fun N E hN hE => ?_
      simp (decide := true) only [VS, WS, TS, ES, ↓reduceIte, Nat.reduceAdd, wrapN (show k < 9223372036854775807 by unfold lim at hl; omega)]
      refine hN _ ?_
      clear hN hE N E
      refine ⟨k + 1, ⟨hlt, rfl, rfl, rfl, ?_, rfl⟩, by omega⟩
      simp (decide := true) only [upd_eq, putT_some, WS, ES, ↓reduceIte, Nat.reduceAdd]
      rw [htk]
      rw [without_snoc, if_pos (by simpa using hc)]; exact ho
  · refine VW_exit ?_
    first | refine VW_reg [] fun N E hN hE => ?_ | (refine VW_seq ?_; refine VW_reg [] fun N E hN hE => ?_) | (refine VW_seq ?_; refine VW_seq ?_; refine VW_reg [] fun N E hN hE => ?_) | (refine VW_seq ?_; refine VW_seq ?_; refine VW_seq ?_; refine VW_reg [] fun N E hN hE => ?_) | refine VW_regE [] fun N E hN hE => ?_ | (refine VW_seq ?_; refine VW_regE [] fun N E hN hE => ?_)
    simp (decide := true) only [VS, WS, TS, ES, ↓reduceIte, Nat.reduceAdd]
    refine hN _ ?_
    clear hN hE N E
    refine VW_ret ?_
    have hk3 : k = l.length := by simp [strs_len] at hc; omega
    subst hk3
    rw [List.take_length] at ho
    refine Fin_drop (vresults_one 4 rfl) ho.drop (ho.view ?_) ?_
    · have := List.length_filter_le (fun x => !decide (x = s)) l
      simp [strs_len, without]; omega
    · exact hk

theorem same_names_c (a b : List ByteArray) (hl : a.length ≤ lim) : PureF prog G 16 [.list (strs a), .list (strs b)] H (.bool (decide (a = b))) := by
  refine Pure_body (fn := f16) func16 rfl (by kernel_rfl) (by kernel_rfl) (Nat.le_of_ble_eq_true (by kernel_rfl)) fun K hk => ?_
  first | refine VW_reg [] fun N E hN hE => ?_ | (refine VW_seq ?_; refine VW_reg [] fun N E hN hE => ?_) | (refine VW_seq ?_; refine VW_seq ?_; refine VW_reg [] fun N E hN hE => ?_) | (refine VW_seq ?_; refine VW_seq ?_; refine VW_seq ?_; refine VW_reg [] fun N E hN hE => ?_) | refine VW_regE [] fun N E hN hE => ?_ | (refine VW_seq ?_; refine VW_regE [] fun N E hN hE => ?_)
  simp (decide := true) only [VS, WS, TS, ES, ↓reduceIte, Nat.reduceAdd]
  refine hN _ ?_
  clear hN hE N E
  first | refine VW_reg [] fun N E hN hE => ?_ | (refine VW_seq ?_; refine VW_reg [] fun N E hN hE => ?_) | (refine VW_seq ?_; refine VW_seq ?_; refine VW_reg [] fun N E hN hE => ?_) | (refine VW_seq ?_; refine VW_seq ?_; refine VW_seq ?_; refine VW_reg [] fun N E hN hE => ?_) | refine VW_regE [] fun N E hN hE => ?_ | (refine VW_seq ?_; refine VW_regE [] fun N E hN hE => ?_)
  simp (decide := true) only [VS, WS, TS, ES, ↓reduceIte, Nat.reduceAdd, strs_len]
  refine hN _ ?_
  clear hN hE N E
  first | refine VW_if rfl (fun hc => ?_) (fun hc => ?_) | refine VW_seq (VW_if rfl (fun hc => ?_) (fun hc => ?_))
  · first | refine VW_reg [] fun N E hN hE => ?_ | (refine VW_seq ?_; refine VW_reg [] fun N E hN hE => ?_) | (refine VW_seq ?_; refine VW_seq ?_; refine VW_reg [] fun N E hN hE => ?_) | (refine VW_seq ?_; refine VW_seq ?_; refine VW_seq ?_; refine VW_reg [] fun N E hN hE => ?_) | refine VW_regE [] fun N E hN hE => ?_ | (refine VW_seq ?_; refine VW_regE [] fun N E hN hE => ?_)
    simp (decide := true) only [VS, WS, TS, ES, ↓reduceIte, Nat.reduceAdd]
    refine hN _ ?_
    clear hN hE N E
    refine VW_ret (Fin_ret1 4 rfl ?_)
    simp (decide := true) only [upd_eq, putT_some, WS, ES, ↓reduceIte, Nat.reduceAdd]
    have : a ≠ b := by rintro rfl; simp at hc
    simpa [this] using hk
  have hab : a.length = b.length := by simp at hc; omega
  refine VW_skip ?_
  first | refine VW_reg [] fun N E hN hE => ?_ | (refine VW_seq ?_; refine VW_reg [] fun N E hN hE => ?_) | (refine VW_seq ?_; refine VW_seq ?_; refine VW_reg [] fun N E hN hE => ?_) | (refine VW_seq ?_; refine VW_seq ?_; refine VW_seq ?_; refine VW_reg [] fun N E hN hE => ?_) | refine VW_regE [] fun N E hN hE => ?_ | (refine VW_seq ?_; refine VW_regE [] fun N E hN hE => ?_)
  simp (decide := true) only [VS, WS, TS, ES, ↓reduceIte, Nat.reduceAdd]
  refine hN _ ?_
  clear hN hE N E
  first | refine VW_block ?_ | refine VW_seq (VW_block ?_) | refine VW_seq (VW_seq (VW_block ?_))
  refine VW_loopI (fun k s' => k ≤ a.length ∧ (∀ j, j < k → a[j]? = b[j]?) ∧ s'.tmps 0 = .list (strs a) ∧ s'.tmps 1 = .list (strs b) ∧ s'.tmps 5 = .int k ∧ s'.H = H ∧ s'.defs = []) (fun k => a.length - k) 0 ⟨Nat.zero_le _, by simp, rfl, rfl, rfl, rfl, rfl⟩ ?_
  rintro k ⟨tm, H', ds⟩ ⟨hk1, hk2, h0, h1, h5, rfl, rfl⟩
  refine VW_know 0 _ h0 (VW_know 1 _ h1 (VW_know 5 _ h5 ?_))
  first | refine VW_reg [] fun N E hN hE => ?_ | (refine VW_seq ?_; refine VW_reg [] fun N E hN hE => ?_) | (refine VW_seq ?_; refine VW_seq ?_; refine VW_reg [] fun N E hN hE => ?_) | (refine VW_seq ?_; refine VW_seq ?_; refine VW_seq ?_; refine VW_reg [] fun N E hN hE => ?_) | refine VW_regE [] fun N E hN hE => ?_ | (refine VW_seq ?_; refine VW_regE [] fun N E hN hE => ?_)
  simp (decide := true) only [VS, WS, TS, ES, ↓reduceIte, Nat.reduceAdd]
  refine hN _ ?_
  clear hN hE N E
  first | refine VW_if rfl (fun hc => ?_) (fun hc => ?_) | refine VW_seq (VW_if rfl (fun hc => ?_) (fun hc => ?_))
  · have hlt : k < a.length := by simpa [strs_len] using hc
    have hlt2 : k < b.length := by omega
    refine VW_skip ?_
    first | refine VW_block ?_ | refine VW_seq (VW_block ?_) | refine VW_seq (VW_seq (VW_block ?_))
    first | refine VW_regq [] 9 (by kernel_rfl) (by kernel_rfl) (by kernel_rfl) fun N E hN hE => ?_ | (refine VW_seq ?_; refine VW_regq [] 9 (by kernel_rfl) (by kernel_rfl) (by kernel_rfl) fun N E hN hE => ?_) | (refine VW_seq ?_; refine VW_seq ?_; refine VW_regq [] 9 (by kernel_rfl) (by kernel_rfl) (by kernel_rfl) fun N E hN hE => ?_) | (refine VW_seq ?_; refine VW_seq ?_; refine VW_seq ?_; refine VW_regq [] 9 (by kernel_rfl) (by kernel_rfl) (by kernel_rfl) fun N E hN hE => ?_) | refine VW_regqE [] 9 (by kernel_rfl) (by kernel_rfl) (by kernel_rfl) fun N E hN hE => ?_ | (refine VW_seq ?_; refine VW_regqE [] 9 (by kernel_rfl) (by kernel_rfl) (by kernel_rfl) fun N E hN hE => ?_)
    simp only [List.take, List.drop]
    simp (decide := true) only [VS, QS, WS, TS, ES, ↓reduceIte, Nat.reduceAdd, strs_at hlt, strs_at hlt2, nat0, Int.toNat_natCast]
    refine hN _ ?_
    first | refine VW_if rfl (fun hc => ?_) (fun hc => ?_) | refine VW_seq (VW_if rfl (fun hc => ?_) (fun hc => ?_))
    · first | refine VW_reg [] fun N E hN hE => ?_ | (refine VW_seq ?_; refine VW_reg [] fun N E hN hE => ?_) | (refine VW_seq ?_; refine VW_seq ?_; refine VW_reg [] fun N E hN hE => ?_) | (refine VW_seq ?_; refine VW_seq ?_; refine VW_seq ?_; refine VW_reg [] fun N E hN hE => ?_) | refine VW_regE [] fun N E hN hE => ?_ | (refine VW_seq ?_; refine VW_regE [] fun N E hN hE => ?_)
      simp (decide := true) only [VS, WS, TS, ES, ↓reduceIte, Nat.reduceAdd]
      refine hN _ ?_
      clear hN hE N E
      refine VW_ret (Fin_ret1 4 rfl ?_)
      simp (decide := true) only [upd_eq, putT_some, WS, ES, ↓reduceIte, Nat.reduceAdd]
      have : a ≠ b := by rintro rfl; simp at hc
      simpa [this] using hk
    · refine VW_skip ?_
      refine VW_regE [] fun N E hN hE => ?_
      simp (decide := true) only [VS, WS, TS, ES, ↓reduceIte, Nat.reduceAdd, wrapN (show k < 9223372036854775807 by unfold lim at hl; omega)]
      refine hN _ ?_
      clear hN hE N E
      refine ⟨k + 1, ⟨hlt, ?_, rfl, rfl, rfl, rfl, rfl⟩, by omega⟩
      intro j hj
      rcases Nat.lt_succ_iff_lt_or_eq.1 hj with h | rfl
      · exact hk2 j h
      · simpa [hlt, hlt2] using hc
  · refine VW_exit ?_
    first | refine VW_reg [] fun N E hN hE => ?_ | (refine VW_seq ?_; refine VW_reg [] fun N E hN hE => ?_) | (refine VW_seq ?_; refine VW_seq ?_; refine VW_reg [] fun N E hN hE => ?_) | (refine VW_seq ?_; refine VW_seq ?_; refine VW_seq ?_; refine VW_reg [] fun N E hN hE => ?_) | refine VW_regE [] fun N E hN hE => ?_ | (refine VW_seq ?_; refine VW_regE [] fun N E hN hE => ?_)
    simp (decide := true) only [VS, WS, TS, ES, ↓reduceIte, Nat.reduceAdd]
    refine hN _ ?_
    clear hN hE N E
    refine VW_ret (Fin_ret1 4 rfl ?_)
    simp (decide := true) only [upd_eq, putT_some, WS, ES, ↓reduceIte, Nat.reduceAdd]
    have : a = b := by
      refine List.ext_getElem? fun j => ?_
      by_cases hj : j < a.length
      · exact hk2 j (by simp [strs_len] at hc; omega)
      · rw [List.getElem?_eq_none (by omega), List.getElem?_eq_none (by omega)]
    simpa [this] using hk

/-- The bytes of a string. -/
def bytes (s : ByteArray) : List UInt8 := s.data.toList
theorem bytes_len (s : ByteArray) : (bytes s).length = s.size := Array.length_toList
theorem bytes_get (s : ByteArray) (k : Nat) : s[k]? = (bytes s)[k]? := by
  unfold bytes
  rw [Array.getElem?_toList]
  by_cases h : k < s.size
  · rw [getElem?_pos s k h, Array.getElem?_eq_getElem (show k < s.data.size from h)]; rfl
  · rw [getElem?_neg s k h, Array.getElem?_eq_none (show s.data.size ≤ k from Nat.le_of_not_lt h)]
def byteIs (lo hi : Int) (c : UInt8) : Bool := decide (lo ≤ (c.toNat : Int)) && decide ((c.toNat : Int) ≤ hi)
def wordByte (c : UInt8) : Bool := byteIs 97 122 c || byteIs 65 90 c || byteIs 48 57 c || decide ((c.toNat : Int) = 95)
def wordHead (low high : Int) (under : Bool) : List UInt8 → Bool
  | [] => false
  | c :: cs => decide (cs.length < 12) && (byteIs low high c || (under && decide ((c.toNat : Int) = 95)))
def word (s : ByteArray) (low high : Int) (under : Bool) : Bool := wordHead low high under (bytes s) && (bytes s).all wordByte
theorem word_c (s : ByteArray) (low high : Int) (under : Bool) (hs : s.size ≤ lim) : PureF prog G 84 [.str s, .val (.int .u8 low), .val (.int .u8 high), .bool under] H (.bool (word s low high under)) := by
  refine Pure_body (fn := f84) func84 rfl (by kernel_rfl) (by kernel_rfl) (Nat.le_of_ble_eq_true (by kernel_rfl)) fun K hk => ?_
  first | refine VW_reg [] fun N E hN hE => ?_ | (refine VW_seq ?_; refine VW_reg [] fun N E hN hE => ?_) | (refine VW_seq ?_; refine VW_seq ?_; refine VW_reg [] fun N E hN hE => ?_) | (refine VW_seq ?_; refine VW_seq ?_; refine VW_seq ?_; refine VW_reg [] fun N E hN hE => ?_) | refine VW_regE [] fun N E hN hE => ?_ | (refine VW_seq ?_; refine VW_regE [] fun N E hN hE => ?_)
  simp (decide := true) only [VS, WS, TS, ES, ↓reduceIte, Nat.reduceAdd]
  refine hN _ ?_
  clear hN hE N E
  refine VW_seq ?_
  refine VW_regC [] (fun s' => s'.tmps 35 = .bool (!wordHead low high under (bytes s)) ∧ s'.tmps 0 = .str s ∧ s'.H = H ∧ s'.defs = []) (fun N E hN hE => ?_) ?_
  · simp (decide := true) only [VS, WS, TS, ES, ↓reduceIte, Nat.reduceAdd]
    refine wcall_pure (in_c _ _ _) ?_
    have h0 : s[0]? = (bytes s)[0]? := bytes_get s 0
    have hlen := bytes_len s
    clear hE hk
    rcases hb : bytes s with _ | ⟨c, cs⟩
    · rw [hb] at hlen
      have : decide ((1 : Int) ≤ s.size) = false := decide_eq_false (by rw [← hlen]; simp)
      simp (decide := true) only [VS, WS, TS, ES, ↓reduceIte, Nat.reduceAdd, this, Bool.false_and]
      refine hN _ ⟨?_, ?_, rfl, rfl⟩
      · simp (decide := true) only [upd_eq, putT_some, WS, ES, ↓reduceIte, Nat.reduceAdd]
        simp only [hb, wordHead, Bool.not_false]
      · simp (decide := true) only [upd_eq, putT_some, WS, ES, ↓reduceIte, Nat.reduceAdd]
    · rw [hb] at hlen h0
      rw [List.length_cons] at hlen
      have h1 : decide ((1 : Int) ≤ s.size) = true := decide_eq_true (by omega)
      have h2 : decide ((s.size : Int) ≤ 12) = decide (cs.length < 12) := decide_eq_decide.2 (by omega)
      have h3 : s[Int.toNat 0]? = some c := by simpa using h0
      clear h0
      simp (decide := true) only [VS, WS, TS, ES, ↓reduceIte, Nat.reduceAdd, h1, h2, h3, Bool.true_and]
      repeat' (refine wgd_split (fun hb => ?_) (fun hb => ?_) <;> simp (decide := true) only [VS, WS, TS, ES, ↓reduceIte, Nat.reduceAdd, h1, h2, h3, *])
      all_goals refine hN _ ⟨?_, ?_, rfl, rfl⟩
      all_goals simp (decide := true) only [upd_eq, putT_some, WS, ES, ↓reduceIte, Nat.reduceAdd]
      all_goals (clear hN; simp_all [byteIs, wordHead])
  · rintro ⟨tm, H', ds⟩ ⟨h35, h0, rfl, rfl⟩
    simp only at h35 h0
    refine VW_know 35 _ h35 (VW_know 0 _ h0 ?_)
    first | refine VW_if rfl (fun hc => ?_) (fun hc => ?_) | refine VW_seq (VW_if rfl (fun hc => ?_) (fun hc => ?_))
    · first | refine VW_reg [] fun N E hN hE => ?_ | (refine VW_seq ?_; refine VW_reg [] fun N E hN hE => ?_) | (refine VW_seq ?_; refine VW_seq ?_; refine VW_reg [] fun N E hN hE => ?_) | (refine VW_seq ?_; refine VW_seq ?_; refine VW_seq ?_; refine VW_reg [] fun N E hN hE => ?_) | refine VW_regE [] fun N E hN hE => ?_ | (refine VW_seq ?_; refine VW_regE [] fun N E hN hE => ?_)
      simp (decide := true) only [VS, WS, TS, ES, ↓reduceIte, Nat.reduceAdd]
      refine hN _ ?_
      clear hN hE N E
      refine VW_ret (Fin_ret1 8 rfl ?_)
      simp (decide := true) only [upd_eq, putT_some, WS, ES, ↓reduceIte, Nat.reduceAdd]
      have : word s low high under = false := by simp only [word]; simp only [Bool.not_eq_true'] at hc; rw [hc, Bool.false_and]
      rwa [this] at hk
    · refine VW_skip ?_
      have hw : word s low high under = (bytes s).all wordByte := by simp only [word]; simp only [Bool.not_eq_false'] at hc; rw [hc, Bool.true_and]
      rw [hw] at hk
      clear hw hc h35
      first | refine VW_reg [] fun N E hN hE => ?_ | (refine VW_seq ?_; refine VW_reg [] fun N E hN hE => ?_) | (refine VW_seq ?_; refine VW_seq ?_; refine VW_reg [] fun N E hN hE => ?_) | (refine VW_seq ?_; refine VW_seq ?_; refine VW_seq ?_; refine VW_reg [] fun N E hN hE => ?_) | refine VW_regE [] fun N E hN hE => ?_ | (refine VW_seq ?_; refine VW_regE [] fun N E hN hE => ?_)
      simp (decide := true) only [VS, WS, TS, ES, ↓reduceIte, Nat.reduceAdd]
      refine hN _ ?_
      clear hN hE N E
      first | refine VW_block ?_ | refine VW_seq (VW_block ?_) | refine VW_seq (VW_seq (VW_block ?_))
      refine VW_loopI (fun k s' => k ≤ s.size ∧ (∀ j c, j < k → (bytes s)[j]? = some c → wordByte c = true) ∧ s'.tmps 0 = .str s ∧ s'.tmps 9 = .int k ∧ s'.H = H' ∧ s'.defs = []) (fun k => s.size - k) 0 ⟨Nat.zero_le _, by simp, rfl, rfl, rfl, rfl⟩ ?_
      rintro k ⟨tm, H2, ds⟩ ⟨hk1, hk2, h0, h9, rfl, rfl⟩
      refine VW_know 0 _ h0 (VW_know 9 _ h9 ?_)
      first | refine VW_reg [] fun N E hN hE => ?_ | (refine VW_seq ?_; refine VW_reg [] fun N E hN hE => ?_) | (refine VW_seq ?_; refine VW_seq ?_; refine VW_reg [] fun N E hN hE => ?_) | (refine VW_seq ?_; refine VW_seq ?_; refine VW_seq ?_; refine VW_reg [] fun N E hN hE => ?_) | refine VW_regE [] fun N E hN hE => ?_ | (refine VW_seq ?_; refine VW_regE [] fun N E hN hE => ?_)
      simp (decide := true) only [VS, WS, TS, ES, ↓reduceIte, Nat.reduceAdd]
      refine hN _ ?_
      clear hN hE N E
      first | refine VW_if rfl (fun hc => ?_) (fun hc => ?_) | refine VW_seq (VW_if rfl (fun hc => ?_) (fun hc => ?_))
      · have hlt : k < s.size := by simpa using hc
        obtain ⟨c, hcb⟩ : ∃ c, (bytes s)[k]? = some c := ⟨_, List.getElem?_eq_getElem (by rw [bytes_len]; exact hlt)⟩
        have hck : s[Int.toNat (k : Int)]? = some c := by rw [Int.toNat_natCast, bytes_get, hcb]
        refine VW_skip ?_
        first | refine VW_block ?_ | refine VW_seq (VW_block ?_) | refine VW_seq (VW_seq (VW_block ?_))
        first | refine VW_reg [] fun N E hN hE => ?_ | (refine VW_seq ?_; refine VW_reg [] fun N E hN hE => ?_) | (refine VW_seq ?_; refine VW_seq ?_; refine VW_reg [] fun N E hN hE => ?_) | (refine VW_seq ?_; refine VW_seq ?_; refine VW_seq ?_; refine VW_reg [] fun N E hN hE => ?_) | refine VW_regE [] fun N E hN hE => ?_ | (refine VW_seq ?_; refine VW_regE [] fun N E hN hE => ?_)
        simp (decide := true) only [VS, WS, TS, ES, ↓reduceIte, Nat.reduceAdd, hck, nat0]
        refine hN _ ?_
        clear hN hE N E
        refine VW_regC [] (fun s' => s'.tmps 71 = .bool (!wordByte c) ∧ s'.tmps 0 = .str s ∧ s'.tmps 9 = .int k ∧ s'.H = H2 ∧ s'.defs = []) (fun N E hN hE => ?_) ?_
        · clear hE hk
          simp (decide := true) only [VS, WS, TS, ES, ↓reduceIte, Nat.reduceAdd]
          repeat' (refine wgd_split (fun hb => ?_) (fun hb => ?_) <;> simp (decide := true) only [VS, WS, TS, ES, ↓reduceIte, Nat.reduceAdd, *])
          all_goals refine hN _ ⟨?_, ?_, ?_, rfl, rfl⟩
          all_goals simp (decide := true) only [upd_eq, putT_some, WS, ES, ↓reduceIte, Nat.reduceAdd]
          all_goals (clear hN; simp_all [byteIs, wordByte])
        · rintro ⟨tm', H3, ds⟩ ⟨h71, g0, g9, rfl, rfl⟩
          simp only at h71 g0 g9
          refine VW_know 71 _ h71 (VW_know 0 _ g0 (VW_know 9 _ g9 ?_))
          first | refine VW_if rfl (fun hc => ?_) (fun hc => ?_) | refine VW_seq (VW_if rfl (fun hc => ?_) (fun hc => ?_))
          · first | refine VW_reg [] fun N E hN hE => ?_ | (refine VW_seq ?_; refine VW_reg [] fun N E hN hE => ?_) | (refine VW_seq ?_; refine VW_seq ?_; refine VW_reg [] fun N E hN hE => ?_) | (refine VW_seq ?_; refine VW_seq ?_; refine VW_seq ?_; refine VW_reg [] fun N E hN hE => ?_) | refine VW_regE [] fun N E hN hE => ?_ | (refine VW_seq ?_; refine VW_regE [] fun N E hN hE => ?_)
            simp (decide := true) only [VS, WS, TS, ES, ↓reduceIte, Nat.reduceAdd]
            refine hN _ ?_
            clear hN hE N E
            refine VW_ret (Fin_ret1 8 rfl ?_)
            simp (decide := true) only [upd_eq, putT_some, WS, ES, ↓reduceIte, Nat.reduceAdd]
            have : (bytes s).all wordByte = false := by
              rw [List.all_eq_false]
              exact ⟨c, List.mem_of_getElem? hcb, by simpa using hc⟩
            rwa [this] at hk
          · refine VW_skip ?_
            first | refine VW_reg [] fun N E hN hE => ?_ | (refine VW_seq ?_; refine VW_reg [] fun N E hN hE => ?_) | (refine VW_seq ?_; refine VW_seq ?_; refine VW_reg [] fun N E hN hE => ?_) | (refine VW_seq ?_; refine VW_seq ?_; refine VW_seq ?_; refine VW_reg [] fun N E hN hE => ?_) | refine VW_regE [] fun N E hN hE => ?_ | (refine VW_seq ?_; refine VW_regE [] fun N E hN hE => ?_)
            simp (decide := true) only [VS, WS, TS, ES, ↓reduceIte, Nat.reduceAdd, wrapN (show k < 9223372036854775807 by unfold lim at hs; omega)]
            refine hN _ ?_
            clear hN hE N E
            have hwc : wordByte c = true := by simpa using hc
            refine ⟨k + 1, ⟨hlt, ?_, rfl, rfl, rfl, rfl⟩, by omega⟩
            intro j c' hj hcj
            rcases Nat.lt_succ_iff_lt_or_eq.1 hj with h | rfl
            · exact hk2 j c' h hcj
            · rw [hcb] at hcj; cases hcj; exact hwc
      · refine VW_exit ?_
        first | refine VW_reg [] fun N E hN hE => ?_ | (refine VW_seq ?_; refine VW_reg [] fun N E hN hE => ?_) | (refine VW_seq ?_; refine VW_seq ?_; refine VW_reg [] fun N E hN hE => ?_) | (refine VW_seq ?_; refine VW_seq ?_; refine VW_seq ?_; refine VW_reg [] fun N E hN hE => ?_) | refine VW_regE [] fun N E hN hE => ?_ | (refine VW_seq ?_; refine VW_regE [] fun N E hN hE => ?_)
        simp (decide := true) only [VS, WS, TS, ES, ↓reduceIte, Nat.reduceAdd]
        refine hN _ ?_
        clear hN hE N E
        refine VW_ret (Fin_ret1 8 rfl ?_)
        simp (decide := true) only [upd_eq, putT_some, WS, ES, ↓reduceIte, Nat.reduceAdd]
        have : (bytes s).all wordByte = true := by
          rw [List.all_eq_true]
          intro c hcm
          obtain ⟨j, hj⟩ := List.mem_iff_getElem?.1 hcm
          have := (List.getElem?_eq_some_iff.1 hj).1
          rw [bytes_len] at this
          exact hk2 j c (by simp at hc; omega) hj
        rwa [this] at hk

def keywords : List ByteArray := [⟨#[102, 117, 110]⟩, ⟨#[108, 101, 116]⟩, ⟨#[114, 101, 99]⟩, ⟨#[105, 110]⟩, ⟨#[105, 102]⟩, ⟨#[116, 104, 101, 110]⟩, ⟨#[101, 108, 115, 101]⟩, ⟨#[109, 97, 116, 99, 104]⟩, ⟨#[100, 111]⟩,
  ⟨#[104, 97, 110, 100, 108, 101]⟩, ⟨#[115, 104, 97, 108, 108, 111, 119]⟩, ⟨#[110, 97, 109, 101, 100]⟩, ⟨#[109, 97, 115, 107]⟩, ⟨#[117, 115, 105, 110, 103]⟩, ⟨#[99, 108, 111, 115, 101]⟩, ⟨#[114, 101, 115, 117, 109, 101]⟩,
  ⟨#[100, 114, 111, 112]⟩, ⟨#[114, 101, 116, 117, 114, 110]⟩, ⟨#[116, 114, 117, 101]⟩, ⟨#[102, 97, 108, 115, 101]⟩, ⟨#[100, 97, 116, 97]⟩, ⟨#[101, 102, 102, 101, 99, 116]⟩, ⟨#[111, 110, 99, 101]⟩, ⟨#[100, 101, 102]⟩, ⟨#[109, 97, 105, 110]⟩]
theorem keywords_c : PureF prog G 85 [] H (.list (strs keywords)) := by
  refine Pure_body (fn := f85) func85 rfl (by kernel_rfl) (by kernel_rfl) (Nat.le_of_ble_eq_true (by kernel_rfl)) fun K hk => ?_
  first | refine VW_reg [] fun N E hN hE => ?_ | (refine VW_seq ?_; refine VW_reg [] fun N E hN hE => ?_) | (refine VW_seq ?_; refine VW_seq ?_; refine VW_reg [] fun N E hN hE => ?_) | (refine VW_seq ?_; refine VW_seq ?_; refine VW_seq ?_; refine VW_reg [] fun N E hN hE => ?_) | refine VW_regE [] fun N E hN hE => ?_ | (refine VW_seq ?_; refine VW_regE [] fun N E hN hE => ?_)
  simp (decide := true) only [VS, WS, TS, ES, ↓reduceIte, Nat.reduceAdd]
  refine hN _ ?_
  clear hN hE N E
  refine VW_reg [] fun N E hN hE => ?_
  simp (decide := true) only [VS, WS, TS, ES, ↓reduceIte, Nat.reduceAdd]
  refine ⟨bs_ok (by kernel_rfl) ?_, ?_⟩
  · intro x hx
    have : x ∈ strs keywords := hx
    exact all_strs _ x this
  refine hN _ ?_
  refine VW_ret (Fin_ret1 0 rfl ?_)
  simp (decide := true) only [upd_eq, putT_some, WS, ES, ↓reduceIte, Nat.reduceAdd]
  exact hk
def isVar (s : ByteArray) : Bool := word s 97 122 true && !has keywords s
theorem isVar_c (s : ByteArray) (hs : s.size ≤ lim) : PureF prog G 42 [.str s] H (.bool (isVar s)) := by
  refine Pure_body (fn := f42) func42 rfl (by kernel_rfl) (by kernel_rfl) (Nat.le_of_ble_eq_true (by kernel_rfl)) fun K hk => ?_
  first | refine VW_reg [] fun N E hN hE => ?_ | (refine VW_seq ?_; refine VW_reg [] fun N E hN hE => ?_) | (refine VW_seq ?_; refine VW_seq ?_; refine VW_reg [] fun N E hN hE => ?_) | (refine VW_seq ?_; refine VW_seq ?_; refine VW_seq ?_; refine VW_reg [] fun N E hN hE => ?_) | refine VW_regE [] fun N E hN hE => ?_ | (refine VW_seq ?_; refine VW_regE [] fun N E hN hE => ?_)
  simp (decide := true) only [VS, WS, TS, ES, ↓reduceIte, Nat.reduceAdd]
  refine hN _ ?_
  clear hN hE N E
  refine VW_reg [] fun N E hN hE => ?_
  simp (decide := true) only [VS, WS, TS, ES, ↓reduceIte, Nat.reduceAdd]
  refine wcall_pure (word_c s 97 122 true hs) ?_
  simp (decide := true) only [VS, WS, TS, ES, ↓reduceIte, Nat.reduceAdd]
  refine wgd_split (fun hb => ?_) (fun hb => ?_)
  · simp (decide := true) only [VS, WS, TS, ES, ↓reduceIte, Nat.reduceAdd, hb]
    refine wcall_pure keywords_c ?_
    simp (decide := true) only [VS, WS, TS, ES, ↓reduceIte, Nat.reduceAdd, hb]
    refine wcall_pure (has_c keywords s (by decide)) ?_
    simp (decide := true) only [VS, WS, TS, ES, ↓reduceIte, Nat.reduceAdd, hb]
    refine hN _ ?_
    clear hN hE N E
    refine VW_ret (Fin_ret1 2 rfl ?_)
    simp (decide := true) only [upd_eq, putT_some, WS, ES, ↓reduceIte, Nat.reduceAdd]
    simpa [isVar, hb] using hk
  · simp (decide := true) only [VS, WS, TS, ES, ↓reduceIte, Nat.reduceAdd, hb]
    refine hN _ ?_
    clear hN hE N E
    refine VW_ret (Fin_ret1 2 rfl ?_)
    simp (decide := true) only [upd_eq, putT_some, WS, ES, ↓reduceIte, Nat.reduceAdd]
    simpa [isVar, hb] using hk
def isUpper (s : ByteArray) : Bool := word s 65 90 false
theorem isUpper_c (s : ByteArray) (hs : s.size ≤ lim) : PureF prog G 169 [.str s] H (.bool (isUpper s)) := by
  refine Pure_body (fn := f169) func169 rfl (by kernel_rfl) (by kernel_rfl) (Nat.le_of_ble_eq_true (by kernel_rfl)) fun K hk => ?_
  first | refine VW_reg [] fun N E hN hE => ?_ | (refine VW_seq ?_; refine VW_reg [] fun N E hN hE => ?_) | (refine VW_seq ?_; refine VW_seq ?_; refine VW_reg [] fun N E hN hE => ?_) | (refine VW_seq ?_; refine VW_seq ?_; refine VW_seq ?_; refine VW_reg [] fun N E hN hE => ?_) | refine VW_regE [] fun N E hN hE => ?_ | (refine VW_seq ?_; refine VW_regE [] fun N E hN hE => ?_)
  simp (decide := true) only [VS, WS, TS, ES, ↓reduceIte, Nat.reduceAdd]
  refine hN _ ?_
  clear hN hE N E
  refine VW_reg [] fun N E hN hE => ?_
  simp (decide := true) only [VS, WS, TS, ES, ↓reduceIte, Nat.reduceAdd]
  refine wcall_pure (word_c s 65 90 false hs) ?_
  simp (decide := true) only [VS, WS, TS, ES, ↓reduceIte, Nat.reduceAdd]
  refine hN _ ?_
  clear hN hE N E
  refine VW_ret (Fin_ret1 2 rfl ?_)
  simp (decide := true) only [upd_eq, putT_some, WS, ES, ↓reduceIte, Nat.reduceAdd]
  exact hk
def digit (n : Nat) : ByteArray := ⟨#[UInt8.ofNat (48 + n)]⟩
theorem encode_digit : ∀ n : Nat, n < 10 → Utf8.encode (48 + (n : Int)) = digit n := by decide
def digitsF : Nat → Nat → ByteArray
  | 0, _ => ⟨#[]⟩
  | f + 1, n => if n < 10 then digit n else digitsF f (n / 10) ++ digit (n % 10)
def digits (n : Nat) : ByteArray := digitsF 20 n
theorem digits_size : ∀ f n, (digitsF f n).size ≤ f
  | 0, _ => Nat.le_refl _
  | f + 1, n => by
    unfold digitsF
    split
    · show 1 ≤ f + 1; omega
    · have := digits_size f (n / 10)
      rw [ByteArray.size_append]
      have : (digit (n % 10)).size = 1 := rfl
      omega
theorem digitsF_c : ∀ (f n : Nat), n < 10 ^ (f + 1) → f ≤ 17 → PureF prog G 109 [.int n] H (.str (digitsF (f + 1) n))
  | f, n, hn, hf => by
    have hb : n < 1000000000000000000 := Nat.lt_of_lt_of_le hn (Nat.pow_le_pow_right (by decide) (show f + 1 ≤ 18 by omega))
    refine Pure_body (fn := f109) func109 rfl (by kernel_rfl) (by kernel_rfl) (Nat.le_of_ble_eq_true (by kernel_rfl)) fun K hk => ?_
    first | refine VW_reg [] fun N E hN hE => ?_ | (refine VW_seq ?_; refine VW_reg [] fun N E hN hE => ?_) | (refine VW_seq ?_; refine VW_seq ?_; refine VW_reg [] fun N E hN hE => ?_) | (refine VW_seq ?_; refine VW_seq ?_; refine VW_seq ?_; refine VW_reg [] fun N E hN hE => ?_) | refine VW_regE [] fun N E hN hE => ?_ | (refine VW_seq ?_; refine VW_regE [] fun N E hN hE => ?_)
    simp (decide := true) only [VS, WS, TS, ES, ↓reduceIte, Nat.reduceAdd]
    refine hN _ ?_
    clear hN hE N E
    have h0 : decide ((n : Int) < 0) = false := decide_eq_false (by omega)
    first | refine VW_reg [] fun N E hN hE => ?_ | (refine VW_seq ?_; refine VW_reg [] fun N E hN hE => ?_) | (refine VW_seq ?_; refine VW_seq ?_; refine VW_reg [] fun N E hN hE => ?_) | (refine VW_seq ?_; refine VW_seq ?_; refine VW_seq ?_; refine VW_reg [] fun N E hN hE => ?_) | refine VW_regE [] fun N E hN hE => ?_ | (refine VW_seq ?_; refine VW_regE [] fun N E hN hE => ?_)
    simp (decide := true) only [VS, WS, TS, ES, ↓reduceIte, Nat.reduceAdd, h0]
    refine hN _ ?_
    clear hN hE N E
    first | refine VW_if rfl (fun hc => ?_) (fun hc => ?_) | refine VW_seq (VW_if rfl (fun hc => ?_) (fun hc => ?_))
    · cases hc
    refine VW_skip ?_
    first | refine VW_reg [] fun N E hN hE => ?_ | (refine VW_seq ?_; refine VW_reg [] fun N E hN hE => ?_) | (refine VW_seq ?_; refine VW_seq ?_; refine VW_reg [] fun N E hN hE => ?_) | (refine VW_seq ?_; refine VW_seq ?_; refine VW_seq ?_; refine VW_reg [] fun N E hN hE => ?_) | refine VW_regE [] fun N E hN hE => ?_ | (refine VW_seq ?_; refine VW_regE [] fun N E hN hE => ?_)
    simp (decide := true) only [VS, WS, TS, ES, ↓reduceIte, Nat.reduceAdd]
    refine hN _ ?_
    clear hN hE N E
    first | refine VW_if rfl (fun hc => ?_) (fun hc => ?_) | refine VW_seq (VW_if rfl (fun hc => ?_) (fun hc => ?_))
    · have hn10 : n < 10 := by have := of_decide_eq_true hc; omega
      have hw : IntKind.i64.wrap (48 + (n : Int)) = 48 + (n : Int) := wrap64 (by omega) (by omega)
      have hw2 : ∀ m : Nat, m < 10 → IntKind.i32.wrap (48 + (m : Int)) = 48 + (m : Int) := by decide
      have hsz : (digit n).size ≤ lim := by show 1 ≤ lim; decide
      first | refine VW_reg [] fun N E hN hE => ?_ | (refine VW_seq ?_; refine VW_reg [] fun N E hN hE => ?_) | (refine VW_seq ?_; refine VW_seq ?_; refine VW_reg [] fun N E hN hE => ?_) | (refine VW_seq ?_; refine VW_seq ?_; refine VW_seq ?_; refine VW_reg [] fun N E hN hE => ?_) | refine VW_regE [] fun N E hN hE => ?_ | (refine VW_seq ?_; refine VW_regE [] fun N E hN hE => ?_)
      simp (decide := true) only [VS, WS, TS, ES, ↓reduceIte, Nat.reduceAdd, hw, hw2 n hn10, encode_digit n hn10, hsz]
      refine hN _ ?_
      clear hN hE N E
      refine VW_ret (Fin_ret1 2 rfl ?_)
      simp (decide := true) only [upd_eq, putT_some, WS, ES, ↓reduceIte, Nat.reduceAdd]
      rwa [digitsF, if_pos hn10] at hk
    · have hn10 : ¬ n < 10 := by have := of_decide_eq_false hc; omega
      refine VW_skip ?_
      obtain ⟨f, rfl⟩ : ∃ g, f = g + 1 := ⟨f - 1, by
        have : f ≠ 0 := by rintro rfl; simp at hn; omega
        omega⟩
      have hd : n / 10 < 10 ^ (f + 1) := by
        rw [Nat.pow_succ] at hn; omega
      have hm : n % 10 < 10 ^ (f + 1) := Nat.lt_of_lt_of_le (Nat.mod_lt _ (by decide)) (by rw [Nat.pow_succ]; have := Nat.pow_pos (n := f) (show 0 < 10 by decide); omega)
      have hw : IntKind.i64.wrap (Int.tdiv n 10) = ((n / 10 : Nat) : Int) := by
        have : Int.tdiv (n : Int) 10 = ((n / 10 : Nat) : Int) := rfl
        rw [this, wrap64] <;> omega
      have hw2 : Int.tmod (n : Int) 10 = ((n % 10 : Nat) : Int) := rfl
      refine VW_reg [] fun N E hN hE => ?_
      simp (decide := true) only [VS, WS, TS, ES, ↓reduceIte, Nat.reduceAdd, hw, hw2]
      refine wcall_pure (digitsF_c f (n / 10) hd (by omega)) ?_
      simp (decide := true) only [VS, WS, TS, ES, ↓reduceIte, Nat.reduceAdd, hw, hw2]
      refine wcall_pure (digitsF_c f (n % 10) hm (by omega)) ?_
      have hsz : (digitsF (f + 1) (n / 10)).size + (digitsF (f + 1) (n % 10)).size ≤ lim := by
        have h1 := digits_size (f + 1) (n / 10)
        have h2 := digits_size (f + 1) (n % 10)
        unfold lim; omega
      simp (decide := true) only [VS, WS, TS, ES, ↓reduceIte, Nat.reduceAdd, hsz]
      refine hN _ ?_
      clear hN hE N E
      refine VW_ret (Fin_ret1 2 rfl ?_)
      simp (decide := true) only [upd_eq, putT_some, WS, ES, ↓reduceIte, Nat.reduceAdd]
      have e : digitsF (f + 1) (n % 10) = digit (n % 10) := by rw [digitsF, if_pos (Nat.mod_lt _ (by decide))]
      rw [digitsF, if_neg hn10] at hk
      rwa [e]
theorem digitsF_succ : ∀ (f n : Nat), n < 10 ^ (f + 1) → digitsF (f + 2) n = digitsF (f + 1) n
  | 0, n, h => by
    have : n < 10 := by simpa using h
    simp [digitsF, this]
  | f + 1, n, h => by
    have e1 : digitsF (f + 1 + 2) n = if n < 10 then digit n else digitsF (f + 2) (n / 10) ++ digit (n % 10) := by rw [digitsF]
    have e2 : digitsF (f + 1 + 1) n = if n < 10 then digit n else digitsF (f + 1) (n / 10) ++ digit (n % 10) := by rw [digitsF]
    rw [e1, e2, digitsF_succ f (n / 10) (by rw [Nat.pow_succ] at h; omega)]
theorem digits_c (n : Nat) (hn : n < 1000000000000000000) : PureF prog G 109 [.int n] H (.str (digits n)) := by
  have h := digitsF_c (G := G) (H := H) 17 n hn (by decide)
  have e1 := digitsF_succ 17 n hn
  have e2 := digitsF_succ 18 n (Nat.lt_of_lt_of_le hn (by decide))
  unfold digits
  rw [show 20 = 18 + 2 from rfl, e2, show 18 + 1 = 17 + 2 from rfl, e1]
  exact h
end
end Go.V
