/- The program's lexer: words. No condition. -/
import Derived.Test.YtjeiboididfgmaaGreatDoorWm
set_option linter.unusedVariables false
set_option linter.unusedSimpArgs false
set_option linter.defProp false
set_option maxRecDepth 100000
namespace Go.V
open Go Go.Proofs.Tryz

section
variable {P : Program} {G : GT} {n : Nat} {r : Option Nat} {Q : AX → AS → Prop} {H : HM}
/-- A variable that lies in memory and is written no more. -/
theorem VW_frz {i b t : Nat} {cs : List AV} {c : Code} {tm : Nat → AV} {ds : List ADef} (hb : H b = none) (ht : tm i = .addr b 0) (h : VW P G n r c Q ⟨upd tm i (.ref cs), H, ds⟩) : VW P G n r c Q ⟨tm, H.upd b (.cells t cs), ds⟩ := by
  refine VW_see (s := ⟨tm, H.upd b (.cells t cs), ds⟩) (i := i) (H1 := H) (v' := .ref cs) (Drop.upd hb) ?_ h
  show View G _ H (tm i) _
  rw [ht]
  exact View.cells (off := 0) (Drop.upd hb) (HM.upd_same _ _ _) hb
theorem VW_frzM {i b : Nat} {es : List (AV × AV)} {c : Code} {tm : Nat → AV} {ds : List ADef} (hb : H b = none) (ht : tm i = .map b) (h : VW P G n r c Q ⟨upd tm i (.imap es), H, ds⟩) : VW P G n r c Q ⟨tm, H.upd b (.map es), ds⟩ := by
  refine VW_see (s := ⟨tm, H.upd b (.map es), ds⟩) (i := i) (H1 := H) (v' := .imap es) (Drop.upd hb) ?_ h
  show View G _ H (tm i) _
  rw [ht]
  exact View.map (Drop.upd hb) (HM.upd_same _ _ _) hb
end

/-! ### Runes -/
theorem get_at (s : ByteArray) (k : Nat) (h : k < s.size) : s.get! k = s[k] := by
  cases s with | mk d =>
  show d[k]! = d[k]
  exact getElem!_pos d k h
theorem decode_lo (s : ByteArray) (k : Nat) (h : k < s.size) (hb : s[k].toNat < 128) : Utf8.decode s k = (s[k].toNat, 1) := by
  unfold Utf8.decode
  simp only [Nat.add_zero, get_at s k h, hb, if_true]
theorem decode_hi (s : ByteArray) (k : Nat) (h : k < s.size) (hb : ¬ s[k].toNat < 128) : 128 ≤ (Utf8.decode s k).1 := by
  unfold Utf8.decode
  simp only [Nat.add_zero, get_at s k h, hb, if_false]
  have e : Utf8.runeError = 65533 := rfl
  repeat' split
  all_goals first | (simp only [e]; omega) | (simp only [Bool.and_eq_true, decide_eq_true_eq] at *; omega) | (simp_all; omega)

def kindI (c : Int) : Int :=
  if decide (c = 32) || decide (c = 9) || decide (c = 10) then 1
  else if decide (c = 95) || (decide (97 ≤ c) && decide (c ≤ 122)) then 2
  else if decide (65 ≤ c) && decide (c ≤ 90) then 3
  else if decide (48 ≤ c) && decide (c ≤ 57) then 4 else 0

section
variable {G : GT} {H : HM}
theorem kind_c (c : Int) : PureF prog G 137 [.val (.int .u8 c)] H (.int (kindI c)) := by
  refine Pure_body (fn := f137) func137 rfl (by kernel_rfl) (by kernel_rfl) (Nat.le_of_ble_eq_true (by kernel_rfl)) fun K hk => ?_
  first | refine VW_reg [] fun N E hN hE => ?_ | (refine VW_seq ?_; refine VW_reg [] fun N E hN hE => ?_) | (refine VW_seq ?_; refine VW_seq ?_; refine VW_reg [] fun N E hN hE => ?_) | (refine VW_seq ?_; refine VW_seq ?_; refine VW_seq ?_; refine VW_reg [] fun N E hN hE => ?_) | refine VW_regE [] fun N E hN hE => ?_ | (refine VW_seq ?_; refine VW_regE [] fun N E hN hE => ?_)
  simp (decide := true) only [VS, WS, TS, ES, ↓reduceIte, Nat.reduceAdd]
  refine hN _ ?_
  clear hN hE N E
  first | refine VW_block ?_ | refine VW_seq (VW_block ?_) | refine VW_seq (VW_seq (VW_block ?_))
  first | refine VW_regC [] (fun s' => s'.tmps 3 = .bool (decide (c = 32) || decide (c = 9) || decide (c = 10)) ∧ s'.tmps 0 = .val (.int .u8 c) ∧ s'.H = H ∧ s'.defs = []) (fun N E hN hE => ?_) ?_ | (refine VW_seq ?_; refine VW_regC [] (fun s' => s'.tmps 3 = .bool (decide (c = 32) || decide (c = 9) || decide (c = 10)) ∧ s'.tmps 0 = .val (.int .u8 c) ∧ s'.H = H ∧ s'.defs = []) (fun N E hN hE => ?_) ?_) | (refine VW_seq ?_; refine VW_seq ?_; refine VW_regC [] (fun s' => s'.tmps 3 = .bool (decide (c = 32) || decide (c = 9) || decide (c = 10)) ∧ s'.tmps 0 = .val (.int .u8 c) ∧ s'.H = H ∧ s'.defs = []) (fun N E hN hE => ?_) ?_) | refine VW_regEC [] (fun s' => s'.tmps 3 = .bool (decide (c = 32) || decide (c = 9) || decide (c = 10)) ∧ s'.tmps 0 = .val (.int .u8 c) ∧ s'.H = H ∧ s'.defs = []) (fun N E hN hE => ?_) ?_
  · clear hE
    try clear hk
    simp (decide := true) only [VS, WS, TS, ES, ↓reduceIte, Nat.reduceAdd]
    repeat' (refine wgd_split (fun hb => ?_) (fun hb => ?_) <;> simp (decide := true) only [VS, WS, TS, ES, ↓reduceIte, Nat.reduceAdd, *])
    all_goals refine hN _ ?_
    all_goals clear hN
    all_goals refine ⟨?_, ?_, ?_, ?_⟩
    all_goals first | rfl | assumption | (simp only [ex_cells]; rfl) | (simp (decide := true) only [upd_eq, putT_some, WS, ES, ↓reduceIte, Nat.reduceAdd] <;> simp_all; done) | (simp (decide := true) only [upd_eq, putT_some, WS, ES, ↓reduceIte, Nat.reduceAdd] <;> simp_all <;> omega)
  rintro ⟨tb1, Hb1, dsb⟩ ⟨fb3, fb0, gHb, gdsb⟩
  obtain rfl : H = Hb1 := gHb.symm
  obtain rfl : dsb = [] := gdsb
  try simp only [ex_cells] at fb0
  refine VW_know 3 _ fb3 (VW_know 0 _ fb0 ?_)
  rw [kindI] at hk
  first | refine VW_if rfl (fun hc => ?_) (fun hc => ?_) | refine VW_seq (VW_if rfl (fun hc => ?_) (fun hc => ?_))
  · first | refine VW_reg [] fun N E hN hE => ?_ | (refine VW_seq ?_; refine VW_reg [] fun N E hN hE => ?_) | (refine VW_seq ?_; refine VW_seq ?_; refine VW_reg [] fun N E hN hE => ?_) | (refine VW_seq ?_; refine VW_seq ?_; refine VW_seq ?_; refine VW_reg [] fun N E hN hE => ?_) | refine VW_regE [] fun N E hN hE => ?_ | (refine VW_seq ?_; refine VW_regE [] fun N E hN hE => ?_)
    simp (decide := true) only [VS, WS, TS, ES, ↓reduceIte, Nat.reduceAdd]
    refine hN _ ?_
    clear hN hE N E
    refine VW_ret (Fin_ret1 2 rfl ?_)
    simp (decide := true) only [upd_eq, putT_some, WS, ES, ↓reduceIte, Nat.reduceAdd]
    rw [if_pos hc] at hk; exact hk
  rw [if_neg (by rw [hc]; decide)] at hk
  first | refine VW_regC [] (fun s' => s'.tmps 14 = .bool (decide (c = 95) || (decide (97 ≤ c) && decide (c ≤ 122))) ∧ s'.tmps 0 = .val (.int .u8 c) ∧ s'.H = H ∧ s'.defs = []) (fun N E hN hE => ?_) ?_ | (refine VW_seq ?_; refine VW_regC [] (fun s' => s'.tmps 14 = .bool (decide (c = 95) || (decide (97 ≤ c) && decide (c ≤ 122))) ∧ s'.tmps 0 = .val (.int .u8 c) ∧ s'.H = H ∧ s'.defs = []) (fun N E hN hE => ?_) ?_) | (refine VW_seq ?_; refine VW_seq ?_; refine VW_regC [] (fun s' => s'.tmps 14 = .bool (decide (c = 95) || (decide (97 ≤ c) && decide (c ≤ 122))) ∧ s'.tmps 0 = .val (.int .u8 c) ∧ s'.H = H ∧ s'.defs = []) (fun N E hN hE => ?_) ?_) | refine VW_regEC [] (fun s' => s'.tmps 14 = .bool (decide (c = 95) || (decide (97 ≤ c) && decide (c ≤ 122))) ∧ s'.tmps 0 = .val (.int .u8 c) ∧ s'.H = H ∧ s'.defs = []) (fun N E hN hE => ?_) ?_
  · clear hE
    try clear hk
    simp (decide := true) only [VS, WS, TS, ES, ↓reduceIte, Nat.reduceAdd]
    repeat' (refine wgd_split (fun hb => ?_) (fun hb => ?_) <;> simp (decide := true) only [VS, WS, TS, ES, ↓reduceIte, Nat.reduceAdd, *])
    all_goals refine hN _ ?_
    all_goals clear hN
    all_goals refine ⟨?_, ?_, ?_, ?_⟩
    all_goals first | rfl | assumption | (simp only [ex_cells]; rfl) | (simp (decide := true) only [upd_eq, putT_some, WS, ES, ↓reduceIte, Nat.reduceAdd] <;> simp_all; done) | (simp (decide := true) only [upd_eq, putT_some, WS, ES, ↓reduceIte, Nat.reduceAdd] <;> simp_all <;> omega)
  rintro ⟨tb2, Hb2, dsb⟩ ⟨fb14, fb0, gHb, gdsb⟩
  obtain rfl : H = Hb2 := gHb.symm
  obtain rfl : dsb = [] := gdsb
  try simp only [ex_cells] at fb0
  refine VW_know 14 _ fb14 (VW_know 0 _ fb0 ?_)
  first | refine VW_if rfl (fun hc => ?_) (fun hc => ?_) | refine VW_seq (VW_if rfl (fun hc => ?_) (fun hc => ?_))
  · first | refine VW_reg [] fun N E hN hE => ?_ | (refine VW_seq ?_; refine VW_reg [] fun N E hN hE => ?_) | (refine VW_seq ?_; refine VW_seq ?_; refine VW_reg [] fun N E hN hE => ?_) | (refine VW_seq ?_; refine VW_seq ?_; refine VW_seq ?_; refine VW_reg [] fun N E hN hE => ?_) | refine VW_regE [] fun N E hN hE => ?_ | (refine VW_seq ?_; refine VW_regE [] fun N E hN hE => ?_)
    simp (decide := true) only [VS, WS, TS, ES, ↓reduceIte, Nat.reduceAdd]
    refine hN _ ?_
    clear hN hE N E
    refine VW_ret (Fin_ret1 2 rfl ?_)
    simp (decide := true) only [upd_eq, putT_some, WS, ES, ↓reduceIte, Nat.reduceAdd]
    rw [if_pos hc] at hk; exact hk
  rw [if_neg (by rw [hc]; decide)] at hk
  first | refine VW_regC [] (fun s' => s'.tmps 25 = .bool (decide (65 ≤ c) && decide (c ≤ 90)) ∧ s'.tmps 0 = .val (.int .u8 c) ∧ s'.H = H ∧ s'.defs = []) (fun N E hN hE => ?_) ?_ | (refine VW_seq ?_; refine VW_regC [] (fun s' => s'.tmps 25 = .bool (decide (65 ≤ c) && decide (c ≤ 90)) ∧ s'.tmps 0 = .val (.int .u8 c) ∧ s'.H = H ∧ s'.defs = []) (fun N E hN hE => ?_) ?_) | (refine VW_seq ?_; refine VW_seq ?_; refine VW_regC [] (fun s' => s'.tmps 25 = .bool (decide (65 ≤ c) && decide (c ≤ 90)) ∧ s'.tmps 0 = .val (.int .u8 c) ∧ s'.H = H ∧ s'.defs = []) (fun N E hN hE => ?_) ?_) | refine VW_regEC [] (fun s' => s'.tmps 25 = .bool (decide (65 ≤ c) && decide (c ≤ 90)) ∧ s'.tmps 0 = .val (.int .u8 c) ∧ s'.H = H ∧ s'.defs = []) (fun N E hN hE => ?_) ?_
  · clear hE
    try clear hk
    simp (decide := true) only [VS, WS, TS, ES, ↓reduceIte, Nat.reduceAdd]
    repeat' (refine wgd_split (fun hb => ?_) (fun hb => ?_) <;> simp (decide := true) only [VS, WS, TS, ES, ↓reduceIte, Nat.reduceAdd, *])
    all_goals refine hN _ ?_
    all_goals clear hN
    all_goals refine ⟨?_, ?_, ?_, ?_⟩
    all_goals first | rfl | assumption | (simp only [ex_cells]; rfl) | (simp (decide := true) only [upd_eq, putT_some, WS, ES, ↓reduceIte, Nat.reduceAdd] <;> simp_all; done) | (simp (decide := true) only [upd_eq, putT_some, WS, ES, ↓reduceIte, Nat.reduceAdd] <;> simp_all <;> omega)
  rintro ⟨tb3, Hb3, dsb⟩ ⟨fb25, fb0, gHb, gdsb⟩
  obtain rfl : H = Hb3 := gHb.symm
  obtain rfl : dsb = [] := gdsb
  try simp only [ex_cells] at fb0
  refine VW_know 25 _ fb25 (VW_know 0 _ fb0 ?_)
  first | refine VW_if rfl (fun hc => ?_) (fun hc => ?_) | refine VW_seq (VW_if rfl (fun hc => ?_) (fun hc => ?_))
  · first | refine VW_reg [] fun N E hN hE => ?_ | (refine VW_seq ?_; refine VW_reg [] fun N E hN hE => ?_) | (refine VW_seq ?_; refine VW_seq ?_; refine VW_reg [] fun N E hN hE => ?_) | (refine VW_seq ?_; refine VW_seq ?_; refine VW_seq ?_; refine VW_reg [] fun N E hN hE => ?_) | refine VW_regE [] fun N E hN hE => ?_ | (refine VW_seq ?_; refine VW_regE [] fun N E hN hE => ?_)
    simp (decide := true) only [VS, WS, TS, ES, ↓reduceIte, Nat.reduceAdd]
    refine hN _ ?_
    clear hN hE N E
    refine VW_ret (Fin_ret1 2 rfl ?_)
    simp (decide := true) only [upd_eq, putT_some, WS, ES, ↓reduceIte, Nat.reduceAdd]
    rw [if_pos hc] at hk; exact hk
  rw [if_neg (by rw [hc]; decide)] at hk
  first | refine VW_regC [] (fun s' => s'.tmps 32 = .bool (decide (48 ≤ c) && decide (c ≤ 57)) ∧ s'.tmps 0 = .val (.int .u8 c) ∧ s'.H = H ∧ s'.defs = []) (fun N E hN hE => ?_) ?_ | (refine VW_seq ?_; refine VW_regC [] (fun s' => s'.tmps 32 = .bool (decide (48 ≤ c) && decide (c ≤ 57)) ∧ s'.tmps 0 = .val (.int .u8 c) ∧ s'.H = H ∧ s'.defs = []) (fun N E hN hE => ?_) ?_) | (refine VW_seq ?_; refine VW_seq ?_; refine VW_regC [] (fun s' => s'.tmps 32 = .bool (decide (48 ≤ c) && decide (c ≤ 57)) ∧ s'.tmps 0 = .val (.int .u8 c) ∧ s'.H = H ∧ s'.defs = []) (fun N E hN hE => ?_) ?_) | refine VW_regEC [] (fun s' => s'.tmps 32 = .bool (decide (48 ≤ c) && decide (c ≤ 57)) ∧ s'.tmps 0 = .val (.int .u8 c) ∧ s'.H = H ∧ s'.defs = []) (fun N E hN hE => ?_) ?_
  · clear hE
    try clear hk
    simp (decide := true) only [VS, WS, TS, ES, ↓reduceIte, Nat.reduceAdd]
    repeat' (refine wgd_split (fun hb => ?_) (fun hb => ?_) <;> simp (decide := true) only [VS, WS, TS, ES, ↓reduceIte, Nat.reduceAdd, *])
    all_goals refine hN _ ?_
    all_goals clear hN
    all_goals refine ⟨?_, ?_, ?_, ?_⟩
    all_goals first | rfl | assumption | (simp only [ex_cells]; rfl) | (simp (decide := true) only [upd_eq, putT_some, WS, ES, ↓reduceIte, Nat.reduceAdd] <;> simp_all; done) | (simp (decide := true) only [upd_eq, putT_some, WS, ES, ↓reduceIte, Nat.reduceAdd] <;> simp_all <;> omega)
  rintro ⟨tb4, Hb4, dsb⟩ ⟨fb32, fb0, gHb, gdsb⟩
  obtain rfl : H = Hb4 := gHb.symm
  obtain rfl : dsb = [] := gdsb
  try simp only [ex_cells] at fb0
  refine VW_know 32 _ fb32 (VW_know 0 _ fb0 ?_)
  first | refine VW_if rfl (fun hc => ?_) (fun hc => ?_) | refine VW_seq (VW_if rfl (fun hc => ?_) (fun hc => ?_))
  · first | refine VW_reg [] fun N E hN hE => ?_ | (refine VW_seq ?_; refine VW_reg [] fun N E hN hE => ?_) | (refine VW_seq ?_; refine VW_seq ?_; refine VW_reg [] fun N E hN hE => ?_) | (refine VW_seq ?_; refine VW_seq ?_; refine VW_seq ?_; refine VW_reg [] fun N E hN hE => ?_) | refine VW_regE [] fun N E hN hE => ?_ | (refine VW_seq ?_; refine VW_regE [] fun N E hN hE => ?_)
    simp (decide := true) only [VS, WS, TS, ES, ↓reduceIte, Nat.reduceAdd]
    refine hN _ ?_
    clear hN hE N E
    refine VW_ret (Fin_ret1 2 rfl ?_)
    simp (decide := true) only [upd_eq, putT_some, WS, ES, ↓reduceIte, Nat.reduceAdd]
    rw [if_pos hc] at hk; exact hk
  rw [if_neg (by rw [hc]; decide)] at hk
  refine VW_skip ?_
  first | refine VW_reg [] fun N E hN hE => ?_ | (refine VW_seq ?_; refine VW_reg [] fun N E hN hE => ?_) | (refine VW_seq ?_; refine VW_seq ?_; refine VW_reg [] fun N E hN hE => ?_) | (refine VW_seq ?_; refine VW_seq ?_; refine VW_seq ?_; refine VW_reg [] fun N E hN hE => ?_) | refine VW_regE [] fun N E hN hE => ?_ | (refine VW_seq ?_; refine VW_regE [] fun N E hN hE => ?_)
  simp (decide := true) only [VS, WS, TS, ES, ↓reduceIte, Nat.reduceAdd]
  refine hN _ ?_
  clear hN hE N E
  refine VW_ret (Fin_ret1 2 rfl ?_)
  simp (decide := true) only [upd_eq, putT_some, WS, ES, ↓reduceIte, Nat.reduceAdd]
  exact hk
end
end Go.V
