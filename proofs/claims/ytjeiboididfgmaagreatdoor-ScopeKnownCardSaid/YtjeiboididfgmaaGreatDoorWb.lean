/- The program's lexer: names. No condition. -/
import Derived.Test.YtjeiboididfgmaaGreatDoorWa
set_option linter.unusedVariables false
set_option linter.unusedSimpArgs false
set_option linter.defProp false
set_option maxRecDepth 100000
namespace Go.V
open Go Go.Proofs.Tryz

def lexHead (fk : Int) : List UInt8 → Bool
  | [] => false
  | c :: cs => decide (cs.length < 12) && decide (kindI c.toNat = fk)
def lexWord (s : ByteArray) (fk : Int) : Bool := lexHead fk (bytes s) && (bytes s).all wordByte
theorem kind2 (c : UInt8) : decide (kindI c.toNat = 2) = (byteIs 97 122 c || (true && decide ((c.toNat : Int) = 95))) := by
  rw [Bool.eq_iff_iff]
  simp only [kindI, byteIs, Bool.or_eq_true, Bool.and_eq_true, decide_eq_true_eq, true_and]
  repeat' split
  all_goals (try simp only [Bool.or_eq_true, Bool.and_eq_true, decide_eq_true_eq] at *)
  all_goals first | omega | (simp only [true_iff]; omega)
theorem kind3 (c : UInt8) : decide (kindI c.toNat = 3) = (byteIs 65 90 c || (false && decide ((c.toNat : Int) = 95))) := by
  rw [Bool.eq_iff_iff]
  simp only [kindI, byteIs, Bool.or_eq_true, Bool.and_eq_true, decide_eq_true_eq, Bool.false_eq_true, false_and, or_false]
  repeat' split
  all_goals (try simp only [Bool.or_eq_true, Bool.and_eq_true, decide_eq_true_eq] at *)
  all_goals first | omega | (simp only [true_iff]; omega)
theorem kind_word (c : UInt8) : decide (kindI c.toNat < 2) = !wordByte c := by
  rw [Bool.eq_iff_iff]
  simp only [kindI, wordByte, byteIs, Bool.not_eq_true', Bool.or_eq_false_iff, Bool.and_eq_false_iff, decide_eq_true_eq, decide_eq_false_iff_not]
  repeat' split
  all_goals (try simp only [Bool.or_eq_true, Bool.and_eq_true, decide_eq_true_eq] at *)
  all_goals first | omega | (simp only [true_iff]; omega)
theorem lexWord2 (s : ByteArray) : lexWord s 2 = word s 97 122 true := by
  unfold lexWord word
  cases bytes s with
  | nil => rfl
  | cons c cs => simp only [lexHead, wordHead, kind2]
theorem lexWord3 (s : ByteArray) : lexWord s 3 = word s 65 90 false := by
  unfold lexWord word
  cases bytes s with
  | nil => rfl
  | cons c cs => simp only [lexHead, wordHead, kind3]
theorem bytes_at (s : ByteArray) (k : Nat) (h : k < s.size) : (bytes s)[k]? = some s[k] := by
  rw [← bytes_get, getElem?_pos s k h]

section
variable {G : GT} {H : HM}
theorem lword_c (s : ByteArray) (fk : Int) (hs : s.size ≤ lim) : PureF prog G 104 [.str s, .int fk] H (.bool (lexWord s fk)) := by
  refine Pure_body (fn := f104) func104 rfl (by kernel_rfl) (by kernel_rfl) (Nat.le_of_ble_eq_true (by kernel_rfl)) fun K hk => ?_
  first | refine VW_reg [] fun N E hN hE => ?_ | (refine VW_seq ?_; refine VW_reg [] fun N E hN hE => ?_) | (refine VW_seq ?_; refine VW_seq ?_; refine VW_reg [] fun N E hN hE => ?_) | (refine VW_seq ?_; refine VW_seq ?_; refine VW_seq ?_; refine VW_reg [] fun N E hN hE => ?_) | refine VW_regE [] fun N E hN hE => ?_ | (refine VW_seq ?_; refine VW_regE [] fun N E hN hE => ?_)
  simp (decide := true) only [VS, WS, TS, ES, ↓reduceIte, Nat.reduceAdd]
  refine hN _ ?_
  clear hN hE N E
  first | refine VW_regC [] (fun s' => s'.tmps 20 = .bool (!lexHead fk (bytes s)) ∧ s'.tmps 0 = .str s ∧ s'.H = H ∧ s'.defs = []) (fun N E hN hE => ?_) ?_ | (refine VW_seq ?_; refine VW_regC [] (fun s' => s'.tmps 20 = .bool (!lexHead fk (bytes s)) ∧ s'.tmps 0 = .str s ∧ s'.H = H ∧ s'.defs = []) (fun N E hN hE => ?_) ?_) | (refine VW_seq ?_; refine VW_seq ?_; refine VW_regC [] (fun s' => s'.tmps 20 = .bool (!lexHead fk (bytes s)) ∧ s'.tmps 0 = .str s ∧ s'.H = H ∧ s'.defs = []) (fun N E hN hE => ?_) ?_) | refine VW_regEC [] (fun s' => s'.tmps 20 = .bool (!lexHead fk (bytes s)) ∧ s'.tmps 0 = .str s ∧ s'.H = H ∧ s'.defs = []) (fun N E hN hE => ?_) ?_
  · clear hE hk
    have hlen := bytes_len s
    have h0 : s[0]? = (bytes s)[0]? := bytes_get s 0
    rcases hb : bytes s with _ | ⟨c, cs⟩
    · rw [hb] at hlen
      have he : decide (s = ⟨#[]⟩) = true := by
        rw [decide_eq_true_eq, ← bytes_mk s, hb]
      simp (decide := true) only [VS, WS, TS, ES, ↓reduceIte, Nat.reduceAdd, he]
      refine hN _ ⟨?_, ?_, rfl, rfl⟩
      · simp (decide := true) only [upd_eq, putT_some, WS, ES, ↓reduceIte, Nat.reduceAdd]
        rw [hb]; rfl
      · rfl
    · rw [hb] at hlen h0
      rw [List.length_cons] at hlen
      have he : decide (s = ⟨#[]⟩) = false := by
        rw [decide_eq_false_iff_not]
        rintro rfl
        have : bytes ⟨#[]⟩ = [] := rfl
        rw [this] at hb; cases hb
      have h1 : s[Int.toNat 0]? = some c := by simpa using h0
      have h2 : decide ((12 : Int) < s.size) = !decide (cs.length < 12) := by
        rw [Bool.eq_iff_iff]; simp; omega
      clear h0
      simp (decide := true) only [VS, WS, TS, ES, ↓reduceIte, Nat.reduceAdd, he, h1, h2]
      refine wgd_split (fun hc => ?_) (fun hc => ?_)
      · simp (decide := true) only [VS, WS, TS, ES, ↓reduceIte, Nat.reduceAdd, he, h1, h2, hc]
        refine hN _ ⟨?_, ?_, rfl, rfl⟩
        · simp (decide := true) only [upd_eq, putT_some, WS, ES, ↓reduceIte, Nat.reduceAdd]
          simp only [hb, lexHead]
          have : decide (cs.length < 12) = false := by simpa using hc
          rw [this]; rfl
        · rfl
      · simp (decide := true) only [VS, WS, TS, ES, ↓reduceIte, Nat.reduceAdd, he, h1, h2, hc]
        refine wcall_pure (kind_c _) ?_
        simp (decide := true) only [VS, WS, TS, ES, ↓reduceIte, Nat.reduceAdd, he, h1, h2, hc]
        refine hN _ ⟨?_, ?_, rfl, rfl⟩
        · simp (decide := true) only [upd_eq, putT_some, WS, ES, ↓reduceIte, Nat.reduceAdd]
          simp only [hb, lexHead]
          have : decide (cs.length < 12) = true := by simpa using hc
          rw [this, Bool.true_and]
        · rfl
  rintro ⟨tm1, H1, ds⟩ ⟨f20, f0, gH, gds⟩
  obtain rfl : H = H1 := gH.symm
  obtain rfl : ds = [] := gds
  refine VW_know 20 _ f20 (VW_know 0 _ f0 ?_)
  first | refine VW_if rfl (fun hc => ?_) (fun hc => ?_) | refine VW_seq (VW_if rfl (fun hc => ?_) (fun hc => ?_))
  · first | refine VW_reg [] fun N E hN hE => ?_ | (refine VW_seq ?_; refine VW_reg [] fun N E hN hE => ?_) | (refine VW_seq ?_; refine VW_seq ?_; refine VW_reg [] fun N E hN hE => ?_) | (refine VW_seq ?_; refine VW_seq ?_; refine VW_seq ?_; refine VW_reg [] fun N E hN hE => ?_) | refine VW_regE [] fun N E hN hE => ?_ | (refine VW_seq ?_; refine VW_regE [] fun N E hN hE => ?_)
    simp (decide := true) only [VS, WS, TS, ES, ↓reduceIte, Nat.reduceAdd]
    refine hN _ ?_
    clear hN hE N E
    refine VW_ret (Fin_ret1 4 rfl ?_)
    simp (decide := true) only [upd_eq, putT_some, WS, ES, ↓reduceIte, Nat.reduceAdd]
    rw [lexWord, show lexHead fk (bytes s) = false from by simpa using hc] at hk; exact hk
  have hh : lexHead fk (bytes s) = true := by simpa using hc
  rw [lexWord, hh, Bool.true_and] at hk
  refine VW_skip ?_
  first | refine VW_reg [] fun N E hN hE => ?_ | (refine VW_seq ?_; refine VW_reg [] fun N E hN hE => ?_) | (refine VW_seq ?_; refine VW_seq ?_; refine VW_reg [] fun N E hN hE => ?_) | (refine VW_seq ?_; refine VW_seq ?_; refine VW_seq ?_; refine VW_reg [] fun N E hN hE => ?_) | refine VW_regE [] fun N E hN hE => ?_ | (refine VW_seq ?_; refine VW_regE [] fun N E hN hE => ?_)
  simp (decide := true) only [VS, WS, TS, ES, ↓reduceIte, Nat.reduceAdd]
  refine wnew_intro fun b hb => ?_
  simp (decide := true) only [VS, WS, TS, ES, ↓reduceIte, Nat.reduceAdd]
  refine hN _ ?_
  clear hN hE N E
  first | refine VW_block ?_ | refine VW_seq (VW_block ?_) | refine VW_seq (VW_seq (VW_block ?_))
  refine VW_loopI (fun k s' => k ≤ s.size ∧ (∀ j c, j < k → (bytes s)[j]? = some c → wordByte c = true) ∧ s'.tmps 22 = .addr b 0 ∧ s'.H = H.upd b (.siter s k) ∧ s'.defs = []) (fun k => s.size - k) 0 ⟨Nat.zero_le _, by simp, rfl, rfl, rfl⟩ ?_
  rintro k ⟨tm, H', ds⟩ ⟨hk1, hk2, h22, hH, hds⟩
  obtain rfl : H' = H.upd b (.siter s k) := hH
  obtain rfl : ds = [] := hds
  have hbs : (H.upd b (.siter s k)) b = some (.siter s k) := HM.upd_same _ _ _
  have hd : Drop (H.upd b (.siter s k)) H := Drop.upd hb
  refine VW_know 22 _ h22 ?_
  first | refine VW_reg [] fun N E hN hE => ?_ | (refine VW_seq ?_; refine VW_reg [] fun N E hN hE => ?_) | (refine VW_seq ?_; refine VW_seq ?_; refine VW_reg [] fun N E hN hE => ?_) | (refine VW_seq ?_; refine VW_seq ?_; refine VW_seq ?_; refine VW_reg [] fun N E hN hE => ?_) | refine VW_regE [] fun N E hN hE => ?_ | (refine VW_seq ?_; refine VW_regE [] fun N E hN hE => ?_)
  simp (decide := true) only [VS, WS, TS, ES, ↓reduceIte, Nat.reduceAdd, hbs]
  by_cases hlt : k < s.size
  · refine wnxS_yes hlt ?_
    simp (decide := true) only [VS, WS, TS, ES, ↓reduceIte, Nat.reduceAdd]
    refine hN _ ?_
    clear hN hE N E
    first | refine VW_if rfl (fun hc => ?_) (fun hc => ?_) | refine VW_seq (VW_if rfl (fun hc => ?_) (fun hc => ?_))
    · refine VW_skip ?_
      first | refine VW_block ?_ | refine VW_seq (VW_block ?_) | refine VW_seq (VW_seq (VW_block ?_))
      first | refine VW_reg [] fun N E hN hE => ?_ | (refine VW_seq ?_; refine VW_reg [] fun N E hN hE => ?_) | (refine VW_seq ?_; refine VW_seq ?_; refine VW_reg [] fun N E hN hE => ?_) | (refine VW_seq ?_; refine VW_seq ?_; refine VW_seq ?_; refine VW_reg [] fun N E hN hE => ?_) | refine VW_regE [] fun N E hN hE => ?_ | (refine VW_seq ?_; refine VW_regE [] fun N E hN hE => ?_)
      simp (decide := true) only [VS, WS, TS, ES, ↓reduceIte, Nat.reduceAdd]
      refine hN _ ?_
      clear hN hE N E
      have hcb := bytes_at s k hlt
      have hd2 : Drop (H.upd b (.siter s (k + (Utf8.decode s k).2))) H := Drop.upd hb
      first | refine VW_regC [] (fun s' => s'.tmps 33 = .bool (!wordByte s[k]) ∧ s'.tmps 22 = .addr b 0 ∧ s'.H = H.upd b (.siter s (k + (Utf8.decode s k).2)) ∧ s'.defs = []) (fun N E hN hE => ?_) ?_ | (refine VW_seq ?_; refine VW_regC [] (fun s' => s'.tmps 33 = .bool (!wordByte s[k]) ∧ s'.tmps 22 = .addr b 0 ∧ s'.H = H.upd b (.siter s (k + (Utf8.decode s k).2)) ∧ s'.defs = []) (fun N E hN hE => ?_) ?_) | (refine VW_seq ?_; refine VW_seq ?_; refine VW_regC [] (fun s' => s'.tmps 33 = .bool (!wordByte s[k]) ∧ s'.tmps 22 = .addr b 0 ∧ s'.H = H.upd b (.siter s (k + (Utf8.decode s k).2)) ∧ s'.defs = []) (fun N E hN hE => ?_) ?_) | refine VW_regEC [] (fun s' => s'.tmps 33 = .bool (!wordByte s[k]) ∧ s'.tmps 22 = .addr b 0 ∧ s'.H = H.upd b (.siter s (k + (Utf8.decode s k).2)) ∧ s'.defs = []) (fun N E hN hE => ?_) ?_
      · clear hE hk
        by_cases hlo : s[k].toNat < 128
        · have hde := decode_lo s k hlt hlo
          have h127 : decide ((127 : Int) < (s[k].toNat : Int)) = false := by rw [decide_eq_false_iff_not]; omega
          have hw : IntKind.u8.wrap (s[k].toNat : Int) = s[k].toNat := (by decide : ∀ n : Nat, n < 128 → IntKind.u8.wrap (n : Int) = n) _ hlo
          rw [hde]
          simp (decide := true) only [VS, WS, TS, ES, ↓reduceIte, Nat.reduceAdd, h127]
          refine wcall_pure (kind_c _) ?_
          simp (decide := true) only [VS, WS, TS, ES, ↓reduceIte, Nat.reduceAdd, h127]
          refine hN _ ⟨?_, ?_, by rw [hde], rfl⟩
          · simp (decide := true) only [upd_eq, putT_some, WS, ES, ↓reduceIte, Nat.reduceAdd]
            rw [hw, kind_word]
          · rfl
        · have hde := decode_hi s k hlt hlo
          have h127 : decide ((127 : Int) < ((Utf8.decode s k).1 : Int)) = true := by rw [decide_eq_true_eq]; omega
          simp (decide := true) only [VS, WS, TS, ES, ↓reduceIte, Nat.reduceAdd, h127]
          refine hN _ ⟨?_, ?_, rfl, rfl⟩
          · simp (decide := true) only [upd_eq, putT_some, WS, ES, ↓reduceIte, Nat.reduceAdd]
            have : wordByte s[k] = false := by
              simp only [wordByte, byteIs, Bool.or_eq_false_iff, Bool.and_eq_false_iff, decide_eq_false_iff_not]
              omega
            rw [this]; rfl
          · rfl
      rintro ⟨tm2, H2, ds⟩ ⟨f33, f22, gH, gds⟩
      obtain rfl : H2 = H.upd b (.siter s (k + (Utf8.decode s k).2)) := gH
      obtain rfl : ds = [] := gds
      refine VW_know 33 _ f33 (VW_know 22 _ f22 ?_)
      first | refine VW_if rfl (fun hc => ?_) (fun hc => ?_) | refine VW_seq (VW_if rfl (fun hc => ?_) (fun hc => ?_))
      · first | refine VW_reg [] fun N E hN hE => ?_ | (refine VW_seq ?_; refine VW_reg [] fun N E hN hE => ?_) | (refine VW_seq ?_; refine VW_seq ?_; refine VW_reg [] fun N E hN hE => ?_) | (refine VW_seq ?_; refine VW_seq ?_; refine VW_seq ?_; refine VW_reg [] fun N E hN hE => ?_) | refine VW_regE [] fun N E hN hE => ?_ | (refine VW_seq ?_; refine VW_regE [] fun N E hN hE => ?_)
        simp (decide := true) only [VS, WS, TS, ES, ↓reduceIte, Nat.reduceAdd]
        refine hN _ ?_
        clear hN hE N E
        refine VW_ret (Fin_retD 4 rfl hd2 ?_)
        simp (decide := true) only [upd_eq, putT_some, WS, ES, ↓reduceIte, Nat.reduceAdd]
        have : (bytes s).all wordByte = false := by
          rw [List.all_eq_false]
          exact ⟨s[k], List.mem_of_getElem? hcb, by simpa using hc⟩
        rwa [this] at hk
      · have hwb : wordByte s[k] = true := by simpa using hc
        have hlo : s[k].toNat < 128 := by
          simp only [wordByte, byteIs, Bool.or_eq_true, Bool.and_eq_true, decide_eq_true_eq] at hwb
          omega
        rw [decode_lo s k hlt hlo]
        refine VW_skip ?_
        refine ⟨k + 1, ⟨hlt, ?_, rfl, rfl, rfl⟩, by omega⟩
        intro j c' hj hcj
        rcases Nat.lt_succ_iff_lt_or_eq.1 hj with h | rfl
        · exact hk2 j c' h hcj
        · rw [hcb] at hcj; cases hcj; exact hwb
    · cases hc
  · refine wnxS_no hlt ?_
    simp (decide := true) only [VS, WS, TS, ES, ↓reduceIte, Nat.reduceAdd]
    refine hN _ ?_
    clear hN hE N E
    first | refine VW_if rfl (fun hc => ?_) (fun hc => ?_) | refine VW_seq (VW_if rfl (fun hc => ?_) (fun hc => ?_))
    · cases hc
    refine VW_exit ?_
    first | refine VW_reg [] fun N E hN hE => ?_ | (refine VW_seq ?_; refine VW_reg [] fun N E hN hE => ?_) | (refine VW_seq ?_; refine VW_seq ?_; refine VW_reg [] fun N E hN hE => ?_) | (refine VW_seq ?_; refine VW_seq ?_; refine VW_seq ?_; refine VW_reg [] fun N E hN hE => ?_) | refine VW_regE [] fun N E hN hE => ?_ | (refine VW_seq ?_; refine VW_regE [] fun N E hN hE => ?_)
    simp (decide := true) only [VS, WS, TS, ES, ↓reduceIte, Nat.reduceAdd]
    refine hN _ ?_
    clear hN hE N E
    refine VW_ret (Fin_retD 4 rfl hd ?_)
    simp (decide := true) only [upd_eq, putT_some, WS, ES, ↓reduceIte, Nat.reduceAdd]
    have : (bytes s).all wordByte = true := by
      rw [List.all_eq_true]
      intro c hcm
      obtain ⟨j, hj⟩ := List.mem_iff_getElem?.1 hcm
      have := (List.getElem?_eq_some_iff.1 hj).1
      rw [bytes_len] at this
      exact hk2 j c (by omega) hj
    rwa [this] at hk

/-! ### Keywords -/
def kwMap (l : List ByteArray) : List (AV × AV) := l.map fun k => (.str k, .int 1)
theorem sameKeyV_str (s x : ByteArray) : sameKeyV (.string s) (.string x) = decide (x = s) := by
  show (s == x) = _
  rw [Bool.eq_iff_iff, ba_beq, decide_eq_true_eq]
  exact eq_comm
theorem assoc_kw (s : ByteArray) : ∀ l : List ByteArray, assoc (.string s) (kwMap l) = if has l s then some (.int 1) else none
  | [] => rfl
  | x :: l => by
    have ih := assoc_kw s l
    show (if sameKeyV (.string s) (.string x) then some (AV.int 1) else assoc (.string s) (kwMap l)) = _
    rw [ih, sameKeyV_str]
    show _ = if (decide (x = s) || has l s) then some (AV.int 1) else none
    cases decide (x = s) <;> simp
theorem assocSet_kw (s : ByteArray) : ∀ l : List ByteArray, has l s = false → assocSet (.string s) (.int 1) (kwMap l) = kwMap (l ++ [s])
  | [], _ => rfl
  | x :: l, h => by
    have h' : (decide (x = s) || has l s) = false := h
    rw [Bool.or_eq_false_iff] at h'
    show (if sameKeyV (.string s) (.string x) then (AV.str s, AV.int 1) :: kwMap l else (AV.str x, AV.int 1) :: assocSet (.string s) (.int 1) (kwMap l)) = _
    rw [assocSet_kw s l h'.2, sameKeyV_str, h'.1, if_neg (by decide)]
    rfl
theorem keywords_pc (hG : Tabs G) : PureF prog G 138 [] H (.imap (kwMap keywords)) := by
  refine Pure_body (fn := f138) func138 rfl (by kernel_rfl) (by kernel_rfl) (Nat.le_of_ble_eq_true (by kernel_rfl)) fun K hk => ?_
  first | refine VW_reg [] fun N E hN hE => ?_ | (refine VW_seq ?_; refine VW_reg [] fun N E hN hE => ?_) | (refine VW_seq ?_; refine VW_seq ?_; refine VW_reg [] fun N E hN hE => ?_) | (refine VW_seq ?_; refine VW_seq ?_; refine VW_seq ?_; refine VW_reg [] fun N E hN hE => ?_) | refine VW_regE [] fun N E hN hE => ?_ | (refine VW_seq ?_; refine VW_regE [] fun N E hN hE => ?_)
  simp (decide := true) only [VS, WS, TS, ES, ↓reduceIte, Nat.reduceAdd]
  refine hN _ ?_
  clear hN hE N E
  first | refine VW_reg [] fun N E hN hE => ?_ | (refine VW_seq ?_; refine VW_reg [] fun N E hN hE => ?_) | (refine VW_seq ?_; refine VW_seq ?_; refine VW_reg [] fun N E hN hE => ?_) | (refine VW_seq ?_; refine VW_seq ?_; refine VW_seq ?_; refine VW_reg [] fun N E hN hE => ?_) | refine VW_regE [] fun N E hN hE => ?_ | (refine VW_seq ?_; refine VW_regE [] fun N E hN hE => ?_)
  simp (decide := true) only [VS, WS, TS, ES, ↓reduceIte, Nat.reduceAdd]
  refine wnew_intro fun b hb => ?_
  simp (decide := true) only [VS, WS, TS, ES, ↓reduceIte, Nat.reduceAdd]
  refine hN _ ?_
  clear hN hE N E
  first | refine VW_reg [] fun N E hN hE => ?_ | (refine VW_seq ?_; refine VW_reg [] fun N E hN hE => ?_) | (refine VW_seq ?_; refine VW_seq ?_; refine VW_reg [] fun N E hN hE => ?_) | (refine VW_seq ?_; refine VW_seq ?_; refine VW_seq ?_; refine VW_reg [] fun N E hN hE => ?_) | refine VW_regE [] fun N E hN hE => ?_ | (refine VW_seq ?_; refine VW_regE [] fun N E hN hE => ?_)
  simp (decide := true) only [VS, WS, TS, ES, ↓reduceIte, Nat.reduceAdd]
  refine wcall_pure (fields_c hG) ?_
  simp (decide := true) only [VS, WS, TS, ES, ↓reduceIte, Nat.reduceAdd]
  refine hN _ ?_
  clear hN hE N E
  first | refine VW_block ?_ | refine VW_seq (VW_block ?_) | refine VW_seq (VW_seq (VW_block ?_))
  refine VW_loopI (fun k s' => k ≤ keywords.length ∧ s'.tmps 5 = .list (strs keywords) ∧ s'.tmps 6 = .int keywords.length ∧ s'.tmps 1 = .map b ∧ s'.tmps 7 = .int k ∧ s'.H = H.upd b (.map (kwMap (keywords.take k))) ∧ s'.defs = []) (fun k => keywords.length - k) 0 ⟨Nat.zero_le _, rfl, rfl, rfl, rfl, rfl, rfl⟩ ?_
  rintro k ⟨tm, H', ds⟩ ⟨hk1, h5, h6, h1, h7, hH, hds⟩
  obtain rfl : H' = H.upd b (.map (kwMap (keywords.take k))) := hH
  obtain rfl : ds = [] := hds
  have hbs : (H.upd b (.map (kwMap (keywords.take k)))) b = some (.map (kwMap (keywords.take k))) := HM.upd_same _ _ _
  refine VW_know 5 _ h5 (VW_know 6 _ h6 (VW_know 1 _ h1 (VW_know 7 _ h7 ?_)))
  first | refine VW_reg [] fun N E hN hE => ?_ | (refine VW_seq ?_; refine VW_reg [] fun N E hN hE => ?_) | (refine VW_seq ?_; refine VW_seq ?_; refine VW_reg [] fun N E hN hE => ?_) | (refine VW_seq ?_; refine VW_seq ?_; refine VW_seq ?_; refine VW_reg [] fun N E hN hE => ?_) | refine VW_regE [] fun N E hN hE => ?_ | (refine VW_seq ?_; refine VW_regE [] fun N E hN hE => ?_)
  simp (decide := true) only [VS, WS, TS, ES, ↓reduceIte, Nat.reduceAdd]
  refine hN _ ?_
  clear hN hE N E
  first | refine VW_if rfl (fun hc => ?_) (fun hc => ?_) | refine VW_seq (VW_if rfl (fun hc => ?_) (fun hc => ?_))
  · have hlt : k < keywords.length := by have := of_decide_eq_true hc; omega
    refine VW_skip ?_
    first | refine VW_block ?_ | refine VW_seq (VW_block ?_) | refine VW_seq (VW_seq (VW_block ?_))
    first | refine VW_reg [] fun N E hN hE => ?_ | (refine VW_seq ?_; refine VW_reg [] fun N E hN hE => ?_) | (refine VW_seq ?_; refine VW_seq ?_; refine VW_reg [] fun N E hN hE => ?_) | (refine VW_seq ?_; refine VW_seq ?_; refine VW_seq ?_; refine VW_reg [] fun N E hN hE => ?_) | refine VW_regE [] fun N E hN hE => ?_ | (refine VW_seq ?_; refine VW_regE [] fun N E hN hE => ?_)
    simp (decide := true) only [VS, WS, TS, ES, ↓reduceIte, Nat.reduceAdd, strs_at hlt, nat0, Int.toNat_natCast]
    refine hN _ ?_
    clear hN hE N E
    first | refine VW_reg [] fun N E hN hE => ?_ | (refine VW_seq ?_; refine VW_reg [] fun N E hN hE => ?_) | (refine VW_seq ?_; refine VW_seq ?_; refine VW_reg [] fun N E hN hE => ?_) | (refine VW_seq ?_; refine VW_seq ?_; refine VW_seq ?_; refine VW_reg [] fun N E hN hE => ?_) | refine VW_regE [] fun N E hN hE => ?_ | (refine VW_seq ?_; refine VW_regE [] fun N E hN hE => ?_)
    simp (decide := true) only [VS, WS, TS, ES, ↓reduceIte, Nat.reduceAdd, hbs]
    refine ⟨rfl, ?_, ?_⟩
    · simp only [keysOk, kwMap, List.all_map, List.all_eq_true]
      intro x _; rfl
    refine hN _ ?_
    clear hN hE N E
    refine VW_regE [] fun N E hN hE => ?_
    simp (decide := true) only [VS, WS, TS, ES, ↓reduceIte, Nat.reduceAdd, wrapN (show k < 9223372036854775807 by have : keywords.length = 25 := rfl; omega)]
    refine hN _ ?_
    clear hN hE N E
    refine ⟨k + 1, ⟨hlt, rfl, rfl, rfl, rfl, ?_, rfl⟩, by omega⟩
    have hd : ∀ i, i < 25 → has (keywords.take i) (keywords.getD i ⟨#[]⟩) = false := by decide
    have hh := hd k hlt
    rw [show keywords.getD k ⟨#[]⟩ = keywords[k] from by simp [List.getD, hlt]] at hh
    show H.upd b (.map _) = _
    rw [assocSet_kw _ _ hh, List.take_succ_eq_append_getElem hlt]
  · refine VW_exit ?_
    have hk3 : k = keywords.length := by have := of_decide_eq_false hc; omega
    subst hk3
    first | refine VW_reg [] fun N E hN hE => ?_ | (refine VW_seq ?_; refine VW_reg [] fun N E hN hE => ?_) | (refine VW_seq ?_; refine VW_seq ?_; refine VW_reg [] fun N E hN hE => ?_) | (refine VW_seq ?_; refine VW_seq ?_; refine VW_seq ?_; refine VW_reg [] fun N E hN hE => ?_) | refine VW_regE [] fun N E hN hE => ?_ | (refine VW_seq ?_; refine VW_regE [] fun N E hN hE => ?_)
    simp (decide := true) only [VS, WS, TS, ES, ↓reduceIte, Nat.reduceAdd]
    refine hN _ ?_
    clear hN hE N E
    refine VW_ret ?_
    exact Fin_drop (vresults_one 0 rfl) (Drop.upd hb) (View.map (Drop.upd hb) (HM.upd_same _ _ _) hb) hk

/-! ### Names -/
theorem kw_keysOk (l : List ByteArray) : keysOk .str (kwMap l) = true := by
  simp only [keysOk, kwMap, List.all_map, List.all_eq_true]
  intro x _; rfl
theorem keyword_c (hG : Tabs G) (s : ByteArray) : PureF prog G 105 [.str s] H (.bool (has keywords s)) := by
  refine Pure_body (fn := f105) func105 rfl (by kernel_rfl) (by kernel_rfl) (Nat.le_of_ble_eq_true (by kernel_rfl)) fun K hk => ?_
  first | refine VW_reg [] fun N E hN hE => ?_ | (refine VW_seq ?_; refine VW_reg [] fun N E hN hE => ?_) | (refine VW_seq ?_; refine VW_seq ?_; refine VW_reg [] fun N E hN hE => ?_) | (refine VW_seq ?_; refine VW_seq ?_; refine VW_seq ?_; refine VW_reg [] fun N E hN hE => ?_) | refine VW_regE [] fun N E hN hE => ?_ | (refine VW_seq ?_; refine VW_regE [] fun N E hN hE => ?_)
  simp (decide := true) only [VS, WS, TS, ES, ↓reduceIte, Nat.reduceAdd]
  refine hN _ ?_
  clear hN hE N E
  first | refine VW_reg [] fun N E hN hE => ?_ | (refine VW_seq ?_; refine VW_reg [] fun N E hN hE => ?_) | (refine VW_seq ?_; refine VW_seq ?_; refine VW_reg [] fun N E hN hE => ?_) | (refine VW_seq ?_; refine VW_seq ?_; refine VW_seq ?_; refine VW_reg [] fun N E hN hE => ?_) | refine VW_regE [] fun N E hN hE => ?_ | (refine VW_seq ?_; refine VW_regE [] fun N E hN hE => ?_)
  simp (decide := true) only [VS, WS, TS, ES, ↓reduceIte, Nat.reduceAdd]
  refine wcall_pure (keywords_pc hG) ?_
  have hv : vlk (some .str) (some ⟨.int .i64, 1, 8, .val (.int .i64 0)⟩) (kwMap keywords) (.string s) true = some (.tup [if has keywords s then .int 1 else .int 0, .bool (has keywords s)]) := by
    simp only [vlk, kw_keysOk, keyFits, Bool.and_self, if_true, assoc_kw]
    cases has keywords s <;> rfl
  simp (decide := true) only [VS, WS, TS, ES, ↓reduceIte, Nat.reduceAdd, hv]
  refine hN _ ?_
  clear hN hE N E
  first | refine VW_reg [] fun N E hN hE => ?_ | (refine VW_seq ?_; refine VW_reg [] fun N E hN hE => ?_) | (refine VW_seq ?_; refine VW_seq ?_; refine VW_reg [] fun N E hN hE => ?_) | (refine VW_seq ?_; refine VW_seq ?_; refine VW_seq ?_; refine VW_reg [] fun N E hN hE => ?_) | refine VW_regE [] fun N E hN hE => ?_ | (refine VW_seq ?_; refine VW_regE [] fun N E hN hE => ?_)
  simp (decide := true) only [VS, WS, TS, ES, ↓reduceIte, Nat.reduceAdd]
  refine hN _ ?_
  clear hN hE N E
  refine VW_ret (Fin_ret1 2 rfl ?_)
  simp (decide := true) only [upd_eq, putT_some, WS, ES, ↓reduceIte, Nat.reduceAdd]
  exact hk
theorem pIsVar_c (hG : Tabs G) (s : ByteArray) (hs : s.size ≤ lim) : PureF prog G 60 [.str s] H (.bool (isVar s)) := by
  refine Pure_body (fn := f60) func60 rfl (by kernel_rfl) (by kernel_rfl) (Nat.le_of_ble_eq_true (by kernel_rfl)) fun K hk => ?_
  first | refine VW_reg [] fun N E hN hE => ?_ | (refine VW_seq ?_; refine VW_reg [] fun N E hN hE => ?_) | (refine VW_seq ?_; refine VW_seq ?_; refine VW_reg [] fun N E hN hE => ?_) | (refine VW_seq ?_; refine VW_seq ?_; refine VW_seq ?_; refine VW_reg [] fun N E hN hE => ?_) | refine VW_regE [] fun N E hN hE => ?_ | (refine VW_seq ?_; refine VW_regE [] fun N E hN hE => ?_)
  simp (decide := true) only [VS, WS, TS, ES, ↓reduceIte, Nat.reduceAdd]
  refine hN _ ?_
  clear hN hE N E
  refine VW_reg [] fun N E hN hE => ?_
  simp (decide := true) only [VS, WS, TS, ES, ↓reduceIte, Nat.reduceAdd]
  refine wcall_pure (lword_c s 2 hs) ?_
  rw [lexWord2]
  simp (decide := true) only [VS, WS, TS, ES, ↓reduceIte, Nat.reduceAdd]
  refine wgd_split (fun hb => ?_) (fun hb => ?_)
  · simp (decide := true) only [VS, WS, TS, ES, ↓reduceIte, Nat.reduceAdd, hb]
    refine wcall_pure (keyword_c hG s) ?_
    simp (decide := true) only [VS, WS, TS, ES, ↓reduceIte, Nat.reduceAdd, hb]
    refine hN _ ?_
    clear hN hE N E
    refine VW_ret (Fin_ret1 2 rfl ?_)
    simp (decide := true) only [upd_eq, putT_some, WS, ES, ↓reduceIte, Nat.reduceAdd]
    simpa [isVar, hb] using hk
  · simp (decide := true) only [VS, WS, TS, ES, ↓reduceIte, Nat.reduceAdd, hb]
    refine hN _ ?_
    clear hN hE N E
    refine VW_ret (Fin_ret1 2 rfl ?_)
    simp (decide := true) only [upd_eq, putT_some, WS, ES, ↓reduceIte, Nat.reduceAdd]
    simpa [isVar, hb] using hk
theorem pIsUpper_c (s : ByteArray) (hs : s.size ≤ lim) : PureF prog G 192 [.str s] H (.bool (isUpper s)) := by
  refine Pure_body (fn := f192) func192 rfl (by kernel_rfl) (by kernel_rfl) (Nat.le_of_ble_eq_true (by kernel_rfl)) fun K hk => ?_
  first | refine VW_reg [] fun N E hN hE => ?_ | (refine VW_seq ?_; refine VW_reg [] fun N E hN hE => ?_) | (refine VW_seq ?_; refine VW_seq ?_; refine VW_reg [] fun N E hN hE => ?_) | (refine VW_seq ?_; refine VW_seq ?_; refine VW_seq ?_; refine VW_reg [] fun N E hN hE => ?_) | refine VW_regE [] fun N E hN hE => ?_ | (refine VW_seq ?_; refine VW_regE [] fun N E hN hE => ?_)
  simp (decide := true) only [VS, WS, TS, ES, ↓reduceIte, Nat.reduceAdd]
  refine hN _ ?_
  clear hN hE N E
  refine VW_reg [] fun N E hN hE => ?_
  simp (decide := true) only [VS, WS, TS, ES, ↓reduceIte, Nat.reduceAdd]
  refine wcall_pure (lword_c s 3 hs) ?_
  rw [lexWord3]
  simp (decide := true) only [VS, WS, TS, ES, ↓reduceIte, Nat.reduceAdd]
  refine hN _ ?_
  clear hN hE N E
  refine VW_ret (Fin_ret1 2 rfl ?_)
  simp (decide := true) only [upd_eq, putT_some, WS, ES, ↓reduceIte, Nat.reduceAdd]
  exact hk
end
end Go.V
