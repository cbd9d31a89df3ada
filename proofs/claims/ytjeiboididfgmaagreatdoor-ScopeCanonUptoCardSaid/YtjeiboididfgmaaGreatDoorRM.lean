/- The third reference: names that correspond (for its alike). No condition. The third reference: what is equal up to renaming is so for its AlphaOf, too. No condition. The law ScopeCanon over abstract states. No condition. -/
import Derived.Test.YtjeiboididfgmaaGreatDoorRX
import Derived.Test.YtjeiboididfgmaaGreatDoorRK
import Derived.Test.YtjeiboididfgmaaGreatDoorRL
import Derived.Test.YtjeiboididfgmaaGreatDoorRF
set_option linter.unusedVariables false
set_option linter.unusedSimpArgs false
set_option linter.defProp false
set_option maxRecDepth 100000
namespace Go.V
open Go Go.Proofs.Tryz
def lastLen (l : List ByteArray) (s : ByteArray) : Nat := (l.reverse.dropWhile fun x => !decide (x = s)).length
theorem lastLen_ne {l : List ByteArray} {x s : ByteArray} (h : x ≠ s) : lastLen (l ++ [x]) s = lastLen l s := by simp [lastLen, h]
theorem lastLen_eq {l : List ByteArray} {x s : ByteArray} (h : x = s) : lastLen (l ++ [x]) s = l.length + 1 := by simp [lastLen, h]
def corr (s t : ByteArray) (a b : List ByteArray) : Bool := decide (lastLen a s = lastLen b t) && (decide (1 ≤ lastLen a s) || decide (s = t))
section
variable {G : GT} {H : HM}
theorem same2_c (s t : ByteArray) (a b : List ByteArray) (ha : a.length ≤ lim) (hb : b.length ≤ lim) : PureF prog G 129 [.str s, .str t, .list (strs a), .list (strs b)] H (.bool (corr s t a b)) := by
 have hlim : lim < 9223372036854775807 := by decide
 have hw1 : IntKind.i64.wrap ((a.length : Int) - 1) = (a.length : Int) - 1 := wrap64 (by omega) (by omega)
 have hw2 : IntKind.i64.wrap ((b.length : Int) - 1) = (b.length : Int) - 1 := wrap64 (by omega) (by omega)
 refine M10 (fn := f129) func129 rfl (by kernel_rfl) (by kernel_rfl) (Nat.le_of_ble_eq_true (by kernel_rfl)) fun K hk => ?_
 refine B10 [] fun N E hN hE => ?_
 simp +decide only [ZS, ↓reduceIte]
 refine hN _ ?_
 clear hN hE N E
 refine B10 [] fun N E hN hE => ?_
 simp +decide only [ZS, ↓reduceIte, L10, hw1, hw2]
 refine hN _ ?_
 clear hN hE N E
 refine I10 (K10 ?_)
 refine V10 (fun m s' => m ≤ a.length ∧ lastLen a s = lastLen (a.take m) s ∧ s'.tmps 0 = .str s ∧ s'.tmps 1 = .str t ∧ s'.tmps 2 = .list (strs a) ∧ s'.tmps 3 = .list (strs b) ∧ s'.tmps 9 = .int ((m : Int) - 1) ∧ s'.tmps 10 = .int ((b.length : Int) - 1) ∧ s'.H = H ∧ s'.defs = []) (fun m => m) a.length
  ⟨Nat.le_refl _, by rw [List.take_length], rfl, rfl, rfl, rfl, rfl, rfl, rfl, rfl⟩ ?_
 rintro m ⟨tm, H', ds⟩ ⟨hm1, hm2, h0, h1, h2, h3, h9, h10, hH, hds⟩
 obtain rfl : H' = H := hH
 obtain rfl : ds = [] := hds
 refine A10 0 _ h0 (A10 1 _ h1 (A10 2 _ h2 (A10 3 _ h3 (A10 9 _ h9 (A10 10 _ h10 ?_)))))
 obtain ⟨q, hq⟩ : ∃ q : Bool, q = (decide ((0 : Int) ≤ (m : Int) - 1) && match a[m - 1]? with | some x => !decide (x = s) | none => false) := ⟨_, rfl⟩
 refine I10 (Y10 [] (fun s' => s'.tmps 26 = .bool q ∧ s'.tmps 0 = .str s ∧ s'.tmps 1 = .str t ∧ s'.tmps 2 = .list (strs a) ∧ s'.tmps 3 = .list (strs b) ∧ s'.tmps 9 = .int ((m : Int) - 1) ∧ s'.tmps 10 = .int ((b.length : Int) - 1) ∧ s'.H = H' ∧ s'.defs = []) (fun N E hN hE => ?_) ?_)
 ·clear hE hk
  simp +decide only [ZS, ↓reduceIte]
  refine T10 (fun hb => ?_) (fun hb => ?_)
  ·have hm0 : (0 : Int) ≤ (m : Int) - 1 := of_decide_eq_true hb
   have hlt : m - 1 < a.length := by omega
   have htn : ((m : Int) - 1).toNat = m - 1 := by omega
   simp +decide only [ZS, ↓reduceIte, hb, hm0, decide_true, htn, F12 hlt]
   refine hN _ ⟨?_, rfl, rfl, rfl, rfl, rfl, rfl, rfl, rfl⟩
   simp +decide only [ZS, ↓reduceIte]
   rw [hq, hb, List.getElem?_eq_getElem hlt]; rfl
  ·simp +decide only [ZS, ↓reduceIte, hb]
   refine hN _ ⟨?_, rfl, rfl, rfl, rfl, rfl, rfl, rfl, rfl⟩
   simp +decide only [ZS, ↓reduceIte]
   rw [hq, hb]; rfl
 rintro ⟨tm1, H1, ds⟩ ⟨g26, g0, g1, g2, g3, g9, g10, gH, gds⟩
 obtain rfl : H' = H1 := gH.symm
 obtain rfl : ds = [] := gds
 refine A10 26 _ g26 (A10 0 _ g0 (A10 1 _ g1 (A10 2 _ g2 (A10 3 _ g3 (A10 9 _ g9 (A10 10 _ g10 ?_))))))
 refine P10 rfl (fun hc => ?_) (fun hc => ?_)
 ·rw [hc] at hq
  have hq := hq.symm
  simp only [Bool.and_eq_true, decide_eq_true_eq] at hq
  have hlt : m - 1 < a.length := by omega
  have htm : a.take m = a.take (m - 1) ++ [a[m - 1]] := by
   have := take_at hlt
   rwa [show m - 1 + 1 = m from by omega] at this
  have hne : a[m - 1] ≠ s := by
   have := hq.2
   rw [List.getElem?_eq_getElem hlt] at this
   simpa using this
  have hw3 : IntKind.i64.wrap ((m : Int) - 1 - 1) = ((m - 1 : Nat) : Int) - 1 := by rw [wrap64] <;> omega
  refine G10 ?_
  refine K10 ?_
  refine U10 [] fun N E hN hE => ?_
  simp +decide only [ZS, ↓reduceIte, hw3]
  refine hN _ ?_
  clear hN hE N E
  exact ⟨m - 1, ⟨by omega, by rw [hm2, htm, lastLen_ne hne], rfl, rfl, rfl, rfl, rfl, rfl, rfl, rfl⟩, by omega⟩
 refine Z10 ?_
 have hla : lastLen a s = m := by
  rw [hm2]
  rw [hc] at hq
  rcases Nat.eq_zero_or_pos m with hm0 | hm0
  ·subst hm0; rfl
  ·have hlt : m - 1 < a.length := by omega
   have htm : a.take m = a.take (m - 1) ++ [a[m - 1]] := by
    have := take_at hlt
    rwa [show m - 1 + 1 = m from by omega] at this
   rw [List.getElem?_eq_getElem hlt, decide_eq_true (by omega), Bool.true_and] at hq
   have : a[m - 1] = s := by simpa using hq.symm
   rw [htm, lastLen_eq this, List.length_take]; omega
 clear hq hc hm2 g26
 refine I10 (K10 ?_)
 refine V10 (fun n s' => n ≤ b.length ∧ lastLen b t = lastLen (b.take n) t ∧ s'.tmps 0 = .str s ∧ s'.tmps 1 = .str t ∧ s'.tmps 3 = .list (strs b) ∧ s'.tmps 9 = .int ((m : Int) - 1) ∧ s'.tmps 10 = .int ((n : Int) - 1) ∧ s'.H = H' ∧ s'.defs = []) (fun n => n) b.length
  ⟨Nat.le_refl _, by rw [List.take_length], rfl, rfl, rfl, rfl, rfl, rfl, rfl⟩ ?_
 rintro n ⟨tm2, H2, ds⟩ ⟨hn1, hn2, h0, h1, h3, h9, h10, hH, hds⟩
 obtain rfl : H' = H2 := hH.symm
 obtain rfl : ds = [] := hds
 refine A10 0 _ h0 (A10 1 _ h1 (A10 3 _ h3 (A10 9 _ h9 (A10 10 _ h10 ?_))))
 obtain ⟨p, hp⟩ : ∃ p : Bool, p = (decide ((0 : Int) ≤ (n : Int) - 1) && match b[n - 1]? with | some x => !decide (x = t) | none => false) := ⟨_, rfl⟩
 refine I10 (Y10 [] (fun s' => s'.tmps 38 = .bool p ∧ s'.tmps 0 = .str s ∧ s'.tmps 1 = .str t ∧ s'.tmps 3 = .list (strs b) ∧ s'.tmps 9 = .int ((m : Int) - 1) ∧ s'.tmps 10 = .int ((n : Int) - 1) ∧ s'.H = H' ∧ s'.defs = []) (fun N E hN hE => ?_) ?_)
 ·clear hE hk
  simp +decide only [ZS, ↓reduceIte]
  refine T10 (fun hb => ?_) (fun hb => ?_)
  ·have hm0 : (0 : Int) ≤ (n : Int) - 1 := of_decide_eq_true hb
   have hlt : n - 1 < b.length := by omega
   have htn : ((n : Int) - 1).toNat = n - 1 := by omega
   simp +decide only [ZS, ↓reduceIte, hb, hm0, decide_true, htn, F12 hlt]
   refine hN _ ⟨?_, rfl, rfl, rfl, rfl, rfl, rfl, rfl⟩
   simp +decide only [ZS, ↓reduceIte]
   rw [hp, hb, List.getElem?_eq_getElem hlt]; rfl
  ·simp +decide only [ZS, ↓reduceIte, hb]
   refine hN _ ⟨?_, rfl, rfl, rfl, rfl, rfl, rfl, rfl⟩
   simp +decide only [ZS, ↓reduceIte]
   rw [hp, hb]; rfl
 rintro ⟨tm3, H3, ds⟩ ⟨g38, g0, g1, g3, g9, g10, gH, gds⟩
 obtain rfl : H' = H3 := gH.symm
 obtain rfl : ds = [] := gds
 refine A10 38 _ g38 (A10 0 _ g0 (A10 1 _ g1 (A10 3 _ g3 (A10 9 _ g9 (A10 10 _ g10 ?_)))))
 refine P10 rfl (fun hc => ?_) (fun hc => ?_)
 ·rw [hc] at hp
  have hp := hp.symm
  simp only [Bool.and_eq_true, decide_eq_true_eq] at hp
  have hlt : n - 1 < b.length := by omega
  have htm : b.take n = b.take (n - 1) ++ [b[n - 1]] := by
   have := take_at hlt
   rwa [show n - 1 + 1 = n from by omega] at this
  have hne : b[n - 1] ≠ t := by
   have := hp.2
   rw [List.getElem?_eq_getElem hlt] at this
   simpa using this
  have hw3 : IntKind.i64.wrap ((n : Int) - 1 - 1) = ((n - 1 : Nat) : Int) - 1 := by rw [wrap64] <;> omega
  refine G10 ?_
  refine K10 ?_
  refine U10 [] fun N E hN hE => ?_
  simp +decide only [ZS, ↓reduceIte, hw3]
  refine hN _ ?_
  clear hN hE N E
  exact ⟨n - 1, ⟨by omega, by rw [hn2, htm, lastLen_ne hne], rfl, rfl, rfl, rfl, rfl, rfl, rfl⟩, by omega⟩
 refine Z10 ?_
 have hlb : lastLen b t = n := by
  rw [hn2]
  rw [hc] at hp
  rcases Nat.eq_zero_or_pos n with hm0 | hm0
  ·subst hm0; rfl
  ·have hlt : n - 1 < b.length := by omega
   have htm : b.take n = b.take (n - 1) ++ [b[n - 1]] := by
    have := take_at hlt
    rwa [show n - 1 + 1 = n from by omega] at this
   rw [List.getElem?_eq_getElem hlt, decide_eq_true (by omega), Bool.true_and] at hp
   have : b[n - 1] = t := by simpa using hp.symm
   rw [htm, lastLen_eq this, List.length_take]; omega
 have e1 : decide ((m : Int) - 1 = (n : Int) - 1) = decide (m = n) := decide_eq_decide.2 (by omega)
 have e2 : decide ((0 : Int) ≤ (m : Int) - 1) = decide (1 ≤ m) := decide_eq_decide.2 (by omega)
 rw [corr, hla, hlb] at hk
 refine B10 [] fun N E hN hE => ?_
 simp +decide only [ZS, ↓reduceIte, e1, e2]
 refine T10 (fun hb => ?_) (fun hb => ?_)
 ·simp +decide only [ZS, ↓reduceIte, e1, e2, hb]
  refine T10 (fun hb2 => ?_) (fun hb2 => ?_)
  ·simp +decide only [ZS, ↓reduceIte, e1, e2, hb, hb2]
   refine hN _ (J10 (F10 8 rfl ?_))
   simp +decide only [ZS, ↓reduceIte]
   rw [hb, hb2] at hk; exact hk
  ·simp +decide only [ZS, ↓reduceIte, e1, e2, hb, hb2]
   refine hN _ (J10 (F10 8 rfl ?_))
   simp +decide only [ZS, ↓reduceIte]
   rw [hb, hb2, Bool.false_or, Bool.true_and] at hk; exact hk
 ·simp +decide only [ZS, ↓reduceIte, e1, e2, hb]
  refine hN _ (J10 (F10 8 rfl ?_))
  simp +decide only [ZS, ↓reduceIte]
  rw [hb, Bool.false_and] at hk; exact hk
end
theorem corr_same {s t : ByteArray} : ∀ {l m : List ByteArray}, l.length = m.length → sameLs l m s t = true → corr s t l.reverse m.reverse = true
 | [], [], _, h => by
  have : s = t := of_decide_eq_true h
  subst this
  simp [corr, lastLen]
 | [], _ :: _, h, _ => by simp at h
 | _ :: _, [], h, _ => by simp at h
 | x :: l, y :: m, hl, h => by
  unfold sameLs at h
  have hlm : l.length = m.length := by simpa using hl
  rw [List.reverse_cons, List.reverse_cons]
  by_cases q : x = s ∨ y = t
  ·rw [if_pos q] at h
   simp only [Bool.and_eq_true, decide_eq_true_eq] at h
   unfold corr
   rw [lastLen_eq h.1, lastLen_eq h.2, List.length_reverse, List.length_reverse, hlm]
   simp
  ·rw [if_neg q] at h
   have ih := corr_same hlm h
   unfold corr at ih ⊢
   rw [lastLen_ne (fun e => q (.inl e)), lastLen_ne (fun e => q (.inr e))]
   exact ih
theorem strs_appU (l m : List ByteArray) : strs l ++ strs m = strs (l ++ m) := by simp [strs]
theorem env_rev (h : Bool) (c : Nm) (L : List Nm) : (env h (c :: L)).reverse = (env h L).reverse ++ selN h c := by
 simp [env]
theorem fr_wid {x p : Ex} {i : Nat} (hp : x.parts[i]? = some p) (h : Bool) : (selN h (fr x i)).length + p.wid ≤ x.wid := by
 have hm := List.mem_of_getElem? hp
 have h1 : p.wid ≤ (x.parts.map Ex.wid).sum := le_sum (List.mem_map_of_mem hm)
 rw [Ex.wid_eq x]
 have h2 : (selN h (fr x i)).length ≤ x.names.length + (x.arms.map fun a => a.names.length).sum := by
  by_cases hi : i < x.l.length
  ·rw [fr_left hi]
   cases h with
   | false => exact Nat.le_trans (own_le x i) (by omega)
   | true =>
    show (ownH x i).length ≤ _
    unfold ownH; split
    ·omega
    ·exact Nat.zero_le _
  ·cases h with
   | true =>
    have : selN true (fr x i) = [] := by unfold fr hOf; rw [if_neg hi]; rfl
    rw [this]; exact Nat.zero_le _
   | false =>
    show (vOf x i).length ≤ _
    unfold vOf
    rw [if_neg hi]
    split
    ·rename_i a ha
     have := le_sum (List.mem_map_of_mem (f := fun a : Ar => a.names.length) (List.mem_of_getElem? ha))
     omega
    ·exact Nat.zero_le _
 omega
section
variable {G : GT}
theorem refAlike_c (x : Ex) : ∀ (y : Ex) (L M : List Nm) (H : HM), Okk x → Okk y → Fr L M → alphaF x y (L.zip M) = true → (∀ h, (env h L).length + x.wid ≤ 30000000) →
  PureF prog G 93 [x.av, y.av, .list (strs (env false L).reverse), .list (strs (env false M).reverse), .list (strs (env true L).reverse), .list (strs (env true M).reverse)] H (.bool true) := by
 induction x using Ex.ind with
 | step x ih =>
  intro y L M H hx hy hF ha hw
  obtain ⟨hlk, ho, hp⟩ := (X12 x y L M).1 ha
  have hbb : bnd = 16777216 := rfl
  have hlim : 50000000 ≤ lim := by decide
  have hpl := M12 x
  have hFl : ∀ h, (env h L).length = (env h M).length := fun h => hF.len
  have hnx := hx.node
  have hny := hy.node
  have hfx := hx.1.one
  have hfy := hy.1.one
  obtain ⟨_, _, hxn, hxl, hxa, _, _⟩ := hx.1.one
  obtain ⟨_, _, hyn, hyl, hya, _, _⟩ := hy.1.one
  have wl := hw false
  have wh := hw true
  have fl := hFl false
  have fh := hFl true
  obtain ⟨a, hea⟩ : ∃ a, (env false L).reverse = a := ⟨_, rfl⟩
  obtain ⟨b, heb⟩ : ∃ b, (env false M).reverse = b := ⟨_, rfl⟩
  obtain ⟨c, hec⟩ : ∃ c, (env true L).reverse = c := ⟨_, rfl⟩
  obtain ⟨d, hed⟩ : ∃ d, (env true M).reverse = d := ⟨_, rfl⟩
  rw [hea, heb, hec, hed]
  have la : a.length ≤ 30000000 := by rw [← hea, List.length_reverse]; omega
  have lb : b.length ≤ 30000000 := by rw [← heb, List.length_reverse]; omega
  have lc : c.length ≤ 30000000 := by rw [← hec, List.length_reverse]; omega
  have ld : d.length ≤ 30000000 := by rw [← hed, List.length_reverse]; omega
  refine M10 (fn := f93) func93 rfl (by kernel_rfl) (by kernel_rfl) (Nat.le_of_ble_eq_true (by kernel_rfl)) fun K hk => ?_
  refine B10 [] fun N E hN hE => ?_
  simp +decide only [ZS, ↓reduceIte]
  refine hN _ ?_
  clear hN hE N E
  have q1 : decide (x.k = y.k) = true := decide_eq_true hlk.k
  have q2 : decide (x.n = y.n) = true := decide_eq_true hlk.n
  have q3 : decide ((x.l.length : Int) = (y.l.length : Int)) = true := decide_eq_true (by rw [hlk.l])
  have q4 : decide ((x.arms.length : Int) = (y.arms.length : Int)) = true := decide_eq_true (by rw [hlk.arms])
  have q5 : decide ((x.names.length : Int) = (y.names.length : Int)) = true := decide_eq_true (by rw [hlk.names])
  have q6 : decide (x.t = y.t) = true := decide_eq_true hlk.t
  refine I10 (B10 [] fun N E hN hE => ?_)
  simp +decide only [ZS, ↓reduceIte, q1, q2, q3, q4, q5, K11, B11, L10, Bool.not_true]
  refine hN _ ?_
  clear hN hE N E
  refine P10 rfl (fun hc => ?_) (fun hc => ?_)
  ·cases hc
  refine G10 ?_
  refine I10 (C13 [] 4 (by kernel_rfl) (by kernel_rfl) (by kernel_rfl) fun N E hN hE => ?_)
  simp only [List.take, List.drop]
  simp +decide only [ZS, QS, ↓reduceIte]
  refine J11 (occurs_c x) ?_
  simp +decide only [ZS, QS, ↓reduceIte]
  refine J11 (occurs_c y) ?_
  simp +decide only [ZS, QS, ↓reduceIte]
  refine hN _ ?_
  clear hN hE N E
  refine B10 [] fun N E hN hE => ?_
  simp +decide only [ZS, ↓reduceIte]
  refine hN _ ?_
  clear hN hE N E
  refine VW_thenC (fun s' => s'.tmps 2 = .list (strs a) ∧ s'.tmps 3 = .list (strs b) ∧ s'.tmps 4 = .list (strs c) ∧ s'.tmps 5 = .list (strs d) ∧ s'.tmps 6 = .ref x.av.cells ∧ s'.tmps 7 = .ref y.av.cells ∧ s'.H = H ∧ s'.defs = []) ?_ ?_
  ·have hoc : (occ x).2 = (occ y).2 := occ_kind hlk.k
   refine P10 rfl (fun hc => ?_) (fun hc => ?_)
   ·have hne : occurs x ≠ emp := by
     have : (!decide (occurs x = emp)) = true := hc
     simpa using this
    have hA : x.k = 0 ∨ x.k = 18 ∨ x.k = 19 := by
     unfold occurs at hne
     split at hne
     ·rename_i q
      simp only [Bool.or_eq_true, decide_eq_true_eq] at q; omega
     ·exact absurd rfl hne
    have hox : occ x = (x.s, false, true) := by unfold occ; rw [if_pos hA]
    have hoy : occ y = (y.s, false, true) := by unfold occ; rw [if_pos (by rw [← hlk.k]; exact hA)]
    have hsx : occurs x = x.s := by
     unfold occurs; rw [if_pos (by simp only [Bool.or_eq_true, decide_eq_true_eq]; omega)]
    have hsy : occurs y = y.s := by
     unfold occurs; rw [if_pos (by simp only [Bool.or_eq_true, decide_eq_true_eq]; rw [← hlk.k]; omega)]
    have hcor : corr (occurs x) (occurs y) a b = true := by
     have h1 := ho (by rw [hox])
     rw [J13 _ _ _ _ _ hF, hox, hoy] at h1
     rw [hsx, hsy, ← hea, ← heb]
     exact corr_same fl h1
    refine B10 [] fun N E hN hE => ?_
    simp +decide only [ZS, ↓reduceIte]
    refine D10 (same2_c (occurs x) (occurs y) a b (by omega) (by omega)) ?_
    simp +decide only [ZS, ↓reduceIte, hcor, Bool.not_true]
    refine hN _ ?_
    clear hN hE N E
    refine P10 rfl (fun hc => ?_) (fun hc => ?_)
    ·cases hc
    exact G10 ⟨rfl, rfl, rfl, rfl, by rw [C10]; rfl, by rw [C10]; rfl, rfl, rfl⟩
   have he0 : occurs x = emp := by
    have : (!decide (occurs x = emp)) = false := hc
    simpa using this
   refine C13 [] 4 (by kernel_rfl) (by kernel_rfl) (by kernel_rfl) fun N E hN hE => ?_
   simp only [List.take, List.drop]
   simp +decide only [ZS, QS, ↓reduceIte]
   refine J11 (occursH_c x) ?_
   simp +decide only [ZS, QS, ↓reduceIte]
   refine J11 (occursH_c y) ?_
   simp +decide only [ZS, QS, ↓reduceIte]
   refine hN _ ?_
   clear hN hE N E
   refine B10 [] fun N E hN hE => ?_
   simp +decide only [ZS, ↓reduceIte]
   refine hN _ ?_
   clear hN hE N E
   refine P10 rfl (fun hc => ?_) (fun hc => ?_)
   ·have hne : occursH x ≠ emp := by
     have : (!decide (occursH x = emp)) = true := hc
     simpa using this
    have hA : x.k = 13 := by
     unfold occursH at hne
     split at hne
     ·rename_i q; exact of_decide_eq_true q
     ·exact absurd rfl hne
    have hox : occ x = (x.s, true, true) := by unfold occ; rw [if_neg (by omega), if_pos hA]
    have hoy : occ y = (y.s, true, true) := by unfold occ; rw [if_neg (by rw [← hlk.k]; omega), if_pos (by rw [← hlk.k]; exact hA)]
    have hsx : occursH x = x.s := by unfold occursH; rw [if_pos (decide_eq_true hA)]
    have hsy : occursH y = y.s := by unfold occursH; rw [if_pos (decide_eq_true (by rw [← hlk.k]; exact hA))]
    have hcor : corr (occursH x) (occursH y) c d = true := by
     have h1 := ho (by rw [hox])
     rw [J13 _ _ _ _ _ hF, hox, hoy] at h1
     rw [hsx, hsy, ← hec, ← hed]
     exact corr_same fh h1
    refine B10 [] fun N E hN hE => ?_
    simp +decide only [ZS, ↓reduceIte]
    refine D10 (same2_c (occursH x) (occursH y) c d (by omega) (by omega)) ?_
    simp +decide only [ZS, ↓reduceIte, hcor, Bool.not_true, q6]
    refine hN _ ?_
    clear hN hE N E
    refine P10 rfl (fun hc => ?_) (fun hc => ?_)
    ·cases hc
    exact G10 ⟨rfl, rfl, rfl, rfl, by rw [C10]; rfl, by rw [C10]; rfl, rfl, rfl⟩
   have he1 : occursH x = emp := by
    have : (!decide (occursH x = emp)) = false := hc
    simpa using this
   have hs : decide (x.s = y.s) = true := by
    refine decide_eq_true (hlk.s ?_)
    cases q : (occ x).2.2 with
    | false => rfl
    | true =>
     have hns := occ_ne hnx q
     unfold occ at q
     split at q
     ·rename_i h
      exact absurd (by unfold occurs at he0; rwa [if_pos (by simp only [Bool.or_eq_true, decide_eq_true_eq]; omega)] at he0) hns
     ·split at q
      ·rename_i h
       exact absurd (by unfold occursH at he1; rwa [if_pos (decide_eq_true h)] at he1) hns
      ·cases q
   refine B10 [] fun N E hN hE => ?_
   simp +decide only [ZS, ↓reduceIte, hs, Bool.not_true]
   refine hN _ ?_
   clear hN hE N E
   refine P10 rfl (fun hc => ?_) (fun hc => ?_)
   ·cases hc
   exact G10 ⟨rfl, rfl, rfl, rfl, by rw [C10]; rfl, by rw [C10]; rfl, rfl, rfl⟩
  rintro ⟨tm, H1, ds⟩ ⟨f2, f3, f4, f5, f6, f7, gH, gds⟩
  obtain rfl : H1 = H := gH
  obtain rfl : ds = [] := gds
  rw [C10] at f6 f7
  refine A10 2 _ f2 (A10 3 _ f3 (A10 4 _ f4 (A10 5 _ f5 (A10 6 _ f6 (A10 7 _ f7 ?_)))))
  refine VW_seqC (fun s' => s'.tmps 2 = .list (strs a) ∧ s'.tmps 3 = .list (strs b) ∧ s'.tmps 4 = .list (strs c) ∧ s'.tmps 5 = .list (strs d) ∧ s'.tmps 6 = .ref x.av.cells ∧ s'.tmps 7 = .ref y.av.cells ∧ s'.H = H1 ∧ s'.defs = []) ?_ ?_
  ·refine VW_seqC (fun s' => s'.tmps 112 = .bool false ∧ s'.tmps 2 = .list (strs a) ∧ s'.tmps 3 = .list (strs b) ∧ s'.tmps 4 = .list (strs c) ∧ s'.tmps 5 = .list (strs d) ∧ s'.tmps 6 = .ref x.av.cells ∧ s'.tmps 7 = .ref y.av.cells ∧ s'.H = H1 ∧ s'.defs = []) ?_ ?_
   ·cases h17 : decide (x.k = 17) with
    | false =>
     refine VW_regqE [] 13 (by kernel_rfl) (by kernel_rfl) (by kernel_rfl) fun N E hN hE => ?_
     simp only [List.take, List.drop]
     simp +decide only [ZS, QS, ↓reduceIte, h17]
     refine hN _ ⟨rfl, rfl, rfl, rfl, rfl, by rw [C10]; rfl, by rw [C10]; rfl, rfl, rfl⟩
    | true =>
     have hk17 : x.k = 17 := of_decide_eq_true h17
     have hn1 := one_name hnx (.inr (.inr hk17))
     have hn2 := hlk.names
     have g1 : ((1 : Int) ≤ (x.names.length : Int)) = True := eq_true (by omega)
     have g2 : ((1 : Int) ≤ (y.names.length : Int)) = True := eq_true (by omega)
     have ht1 : Int.toNat 1 = 1 := rfl
     have hlab : decide (x.names.drop 1 = y.names.drop 1) = true := decide_eq_true (hlk.labels hk17)
     refine VW_regqE [] 13 (by kernel_rfl) (by kernel_rfl) (by kernel_rfl) fun N E hN hE => ?_
     simp only [List.take, List.drop]
     simp +decide only [ZS, QS, ↓reduceIte, h17, L10, R12, g1, g2, ht1, strs_drop]
     refine J11 (same_names_c (x.names.drop 1) (y.names.drop 1) (by rw [List.length_drop]; omega)) ?_
     simp +decide only [ZS, QS, ↓reduceIte, h17, hlab, Bool.not_true]
     refine hN _ ⟨rfl, rfl, rfl, rfl, rfl, by rw [C10]; rfl, by rw [C10]; rfl, rfl, rfl⟩
   rintro ⟨tm1, H2, ds⟩ ⟨f112, f2, f3, f4, f5, f6, f7, gH, gds⟩
   obtain rfl : H2 = H1 := gH
   obtain rfl : ds = [] := gds
   rw [C10] at f6 f7
   refine A10 112 _ f112 (A10 2 _ f2 (A10 3 _ f3 (A10 4 _ f4 (A10 5 _ f5 (A10 6 _ f6 (A10 7 _ f7 ?_))))))
   refine P10 rfl (fun hc => ?_) (fun hc => ?_)
   ·cases hc
   exact G10 ⟨rfl, rfl, rfl, rfl, by rw [C10]; rfl, by rw [C10]; rfl, rfl, rfl⟩
  rintro ⟨tm1, H2, ds⟩ ⟨f2, f3, f4, f5, f6, f7, gH, gds⟩
  obtain rfl : H2 = H1 := gH
  obtain rfl : ds = [] := gds
  rw [C10] at f6 f7
  refine A10 2 _ f2 (A10 3 _ f3 (A10 4 _ f4 (A10 5 _ f5 (A10 6 _ f6 (A10 7 _ f7 ?_)))))
  refine C13 [] 4 (by kernel_rfl) (by kernel_rfl) (by kernel_rfl) fun N E hN hE => ?_
  simp only [List.take, List.drop]
  simp +decide only [ZS, QS, ↓reduceIte]
  refine J11 (parts_c x hfx) ?_
  simp +decide only [ZS, QS, ↓reduceIte]
  refine J11 (parts_c y hfy) ?_
  simp +decide only [ZS, QS, ↓reduceIte]
  refine hN _ ?_
  clear hN hE N E
  refine I10 (B10 [] fun N E hN hE => ?_)
  simp +decide only [ZS, ↓reduceIte]
  refine hN _ ?_
  clear hN hE N E
  refine VW_thenC (fun s' => s'.tmps 2 = .list (strs a) ∧ s'.tmps 3 = .list (strs b) ∧ s'.tmps 4 = .list (strs c) ∧ s'.tmps 5 = .list (strs d) ∧ s'.tmps 6 = .ref x.av.cells ∧ s'.tmps 7 = .ref y.av.cells ∧ s'.tmps 17 = .list (exs x.parts) ∧ s'.tmps 18 = .list (exs y.parts) ∧  s'.H = H2 ∧ s'.defs = []) ?_ ?_
  ·refine K10 ?_
   refine V10 (fun k s' => k ≤ x.arms.length ∧ s'.tmps 2 = .list (strs a) ∧ s'.tmps 3 = .list (strs b) ∧ s'.tmps 4 = .list (strs c) ∧ s'.tmps 5 = .list (strs d) ∧ s'.tmps 6 = .ref x.av.cells ∧ s'.tmps 7 = .ref y.av.cells ∧ s'.tmps 17 = .list (exs x.parts) ∧ s'.tmps 18 = .list (exs y.parts) ∧  s'.tmps 19 = .int k ∧ s'.H = H2 ∧ s'.defs = []) (fun k => x.arms.length - k) 0 ⟨Nat.zero_le _, rfl, rfl, rfl, rfl, by rw [C10]; rfl, by rw [C10]; rfl, rfl, rfl, rfl, rfl, rfl⟩ ?_
   rintro k ⟨tm2, H3, ds⟩ ⟨hk1, f2, f3, f4, f5, f6, f7, f17, f18, f19, gH, gds⟩
   obtain rfl : H3 = H2 := gH
   obtain rfl : ds = [] := gds
   rw [C10] at f6 f7
   refine A10 2 _ f2 (A10 3 _ f3 (A10 4 _ f4 (A10 5 _ f5 (A10 6 _ f6 (A10 7 _ f7 (A10 17 _ f17 (A10 18 _ f18 (A10 19 _ f19 ?_))))))))
   refine I10 (B10 [] fun N E hN hE => ?_)
   simp +decide only [ZS, ↓reduceIte, B11]
   refine hN _ ?_
   clear hN hE N E
   refine P10 rfl (fun hc => ?_) (fun hc => ?_)
   ·have hlt : k < x.arms.length := by have := of_decide_eq_true hc; omega
    have hlt2 : k < y.arms.length := by rw [← hlk.arms]; exact hlt
    have e1 := D13 hlt
    have e2 := D13 hlt2
    have hem := eqArms_at hlk.arm hlt hlt2
    simp only [armF, Bool.and_eq_true, decide_eq_true_eq] at hem
    have m1 : decide (x.arms[k].op = y.arms[k].op) = true := decide_eq_true hem.1
    have m2 : decide ((x.arms[k].names.length : Int) = (y.arms[k].names.length : Int)) = true := decide_eq_true hem.2
    generalize x.arms[k] = xa at *
    generalize y.arms[k] = ya at *
    refine G10 ?_
    refine I10 (K10 ?_)
    refine I10 (VW_regqE [] 30 (by kernel_rfl) (by kernel_rfl) (by kernel_rfl) fun N E hN hE => ?_)
    simp only [List.take, List.drop]
    simp +decide only [ZS, QS, ↓reduceIte, e1, e2, nat0, Int.toNat_natCast, B11, L10, m1, m2, Bool.not_true]
    refine hN _ ?_
    clear hN hE N E
    refine P10 rfl (fun hc => ?_) (fun hc => ?_)
    ·cases hc
    refine G10 ?_
    refine U10 [] fun N E hN hE => ?_
    simp +decide only [ZS, ↓reduceIte, wrapN (show k < 9223372036854775807 by omega)]
    refine hN _ ?_
    clear hN hE N E
    exact ⟨k + 1, ⟨hlt, rfl, rfl, rfl, rfl, by rw [C10]; rfl, by rw [C10]; rfl, rfl, rfl, rfl, rfl, rfl⟩, by omega⟩
   ·refine Z10 ?_
    exact ⟨rfl, rfl, rfl, rfl, by rw [C10]; rfl, by rw [C10]; rfl, rfl, rfl, rfl, rfl⟩
  rintro ⟨tm2, H3, ds⟩ ⟨f2, f3, f4, f5, f6, f7, f17, f18, gH, gds⟩
  obtain rfl : H3 = H2 := gH
  obtain rfl : ds = [] := gds
  rw [C10] at f6 f7
  refine A10 2 _ f2 (A10 3 _ f3 (A10 4 _ f4 (A10 5 _ f5 (A10 6 _ f6 (A10 7 _ f7 (A10 17 _ f17 (A10 18 _ f18 ?_)))))))
  refine I10 (B10 [] fun N E hN hE => ?_)
  simp +decide only [ZS, ↓reduceIte]
  refine hN _ ?_
  clear hN hE N E
  refine K10 ?_
  refine V10 (fun k s' => k ≤ x.parts.length ∧ s'.tmps 2 = .list (strs a) ∧ s'.tmps 3 = .list (strs b) ∧ s'.tmps 4 = .list (strs c) ∧ s'.tmps 5 = .list (strs d) ∧ s'.tmps 6 = .ref x.av.cells ∧ s'.tmps 7 = .ref y.av.cells ∧ s'.tmps 17 = .list (exs x.parts) ∧ s'.tmps 18 = .list (exs y.parts) ∧  s'.tmps 20 = .int k ∧ s'.H = H3 ∧ s'.defs = []) (fun k => x.parts.length - k) 0 ⟨Nat.zero_le _, rfl, rfl, rfl, rfl, by rw [C10]; rfl, by rw [C10]; rfl, rfl, rfl, rfl, rfl, rfl⟩ ?_
  rintro k ⟨tm3, H4, ds⟩ ⟨hk1, f2, f3, f4, f5, f6, f7, f17, f18, f20, gH, gds⟩
  obtain rfl : H4 = H3 := gH
  obtain rfl : ds = [] := gds
  rw [C10] at f6 f7
  refine A10 2 _ f2 (A10 3 _ f3 (A10 4 _ f4 (A10 5 _ f5 (A10 6 _ f6 (A10 7 _ f7 (A10 17 _ f17 (A10 18 _ f18 (A10 20 _ f20 ?_))))))))
  refine I10 (B10 [] fun N E hN hE => ?_)
  simp +decide only [ZS, ↓reduceIte, K11]
  refine hN _ ?_
  clear hN hE N E
  refine P10 rfl (fun hc => ?_) (fun hc => ?_)
  ·have hlt : k < x.parts.length := by have := of_decide_eq_true hc; omega
   have hlt2 : k < y.parts.length := by rw [← hlk.parts]; exact hlt
   have e1 := exs_at hlt
   have e2 := exs_at hlt2
   have hpx := List.getElem?_eq_getElem hlt
   have hpy := List.getElem?_eq_getElem hlt2
   have hmx := List.getElem_mem hlt
   have hmy := List.getElem_mem hlt2
   have bx := bound_len x hfx k
   have by' := bound_len y hfy k
   have bhx := boundH_len x hfx k
   have bhy := boundH_len y hfy k
   refine G10 ?_
   refine I10 (K10 ?_)
   refine' VW_mix [] [0, 1, 3, 4, 7, 8, 10, 11] (.one 2 true (.one 5 true (.one 6 true (.one 9 true (.one 12 false (.one 13 false (.one 14 false (.one 15 false .fin)))))))) (fun _ => True) (by kernel_rfl) (by kernel_rfl) (trivial) (fun H' N hp hN => ?_) ?_
   rotate_left 1
   ·simp only [opsAt, List.drop, List.take, List.cons_append, List.nil_append]
    simp +decide only [ZS, QS, ↓reduceIte]
    exact hN
   refine L11 fun N hN => ?_
   simp only [List.drop, List.take]
   simp +decide only [ZS, ↓reduceIte]
   refine O11 (by kernel_rfl) (OutG.nil (Drop.refl H4) 9 1) (Y12 _) (fun _ _ _ e => by cases e) (strs_sz _) (by rw [L10]; simp; omega) fun v1 Ha g1 => ?_
   rw [R10]
   simp +decide only [ZS, ↓reduceIte]
   refine hN _ ⟨fun _ => trivial, ?_⟩
   clear hN N
   refine L11 fun N hN => ?_
   simp only [List.drop, List.take]
   simp +decide only [ZS, ↓reduceIte]
   refine D10 (bound_c x k hfx hlt (rec_shape hnx)) ?_
   simp +decide only [ZS, ↓reduceIte]
   refine hN _ ⟨fun _ => trivial, ?_⟩
   clear hN N
   refine L11 fun N hN => ?_
   simp only [List.drop, List.take]
   simp +decide only [ZS, ↓reduceIte]
   refine O11 (by kernel_rfl) g1 (Y12 _) (fun _ _ _ e => by cases e) (strs_sz _) (by simp only [List.nil_append, L10]; omega) fun v2 Hb g2 => ?_
   rw [R10]
   simp +decide only [ZS, ↓reduceIte]
   refine hN _ ⟨fun _ => trivial, ?_⟩
   clear hN N
   refine L11 fun N hN => ?_
   simp only [List.drop, List.take]
   simp +decide only [ZS, ↓reduceIte]
   refine O11 (by kernel_rfl) (OutG.nil (Drop.refl Hb) 9 1) (Y12 _) (fun _ _ _ e => by cases e) (strs_sz _) (by rw [L10]; simp; omega) fun v3 Hc g3 => ?_
   rw [R10]
   simp +decide only [ZS, ↓reduceIte]
   refine hN _ ⟨fun _ => trivial, ?_⟩
   clear hN N
   refine L11 fun N hN => ?_
   simp only [List.drop, List.take]
   simp +decide only [ZS, ↓reduceIte]
   refine D10 (bound_c y k hfy hlt2 (rec_shape hny)) ?_
   simp +decide only [ZS, ↓reduceIte]
   refine hN _ ⟨fun h => (by cases h), ?_⟩
   clear hN N
   refine L11 fun N hN => ?_
   simp only [List.drop, List.take]
   simp +decide only [ZS, ↓reduceIte]
   refine O11 (by kernel_rfl) g3 (Y12 _) (fun _ _ _ e => by cases e) (strs_sz _) (by simp only [List.nil_append, L10]; omega) fun v4 Hd g4 => ?_
   rw [R10]
   simp +decide only [ZS, ↓reduceIte]
   refine hN _ ⟨fun h => (by cases h), ?_⟩
   clear hN N
   refine L11 fun N hN => ?_
   simp only [List.drop, List.take]
   simp +decide only [ZS, ↓reduceIte, g2.one]
   refine hN _ ⟨fun h => (by cases h), ?_⟩
   clear hN N
   refine L11 fun N hN => ?_
   simp only [List.drop, List.take]
   simp +decide only [ZS, ↓reduceIte, g4.one]
   refine hN _ ⟨fun h => (by cases h), wt_fin ?_⟩
   clear hN N
   simp only [List.nil_append, strs_appU] at g2 g4
   refine VW_see (s := ⟨_, Hd, []⟩) (i := 22) (H1 := Hb) (v' := .list (strs (b ++ bound y k))) g4.drop (g4.view (by rw [L10]; simp only [List.length_append]; omega)) ?_
   refine VW_see (s := ⟨_, Hb, []⟩) (i := 21) (H1 := H4) (v' := .list (strs (a ++ bound x k))) g2.drop (g2.view (by rw [L10]; simp only [List.length_append]; omega)) ?_
   clear g1 g2 g3 g4
   refine' VW_mix [] [0, 1, 3, 4, 7, 8, 10, 11] (.one 2 true (.one 5 true (.one 6 true (.one 9 true (.one 12 false (.one 13 false (.one 14 false (.one 15 false .fin)))))))) (fun _ => True) (by kernel_rfl) (by kernel_rfl) (trivial) (fun H' N hp hN => ?_) ?_
   rotate_left 1
   ·simp only [opsAt, List.drop, List.take, List.cons_append, List.nil_append]
    simp +decide only [ZS, QS, ↓reduceIte]
    exact hN
   refine L11 fun N hN => ?_
   simp only [List.drop, List.take]
   simp +decide only [ZS, ↓reduceIte]
   refine O11 (by kernel_rfl) (OutG.nil (Drop.refl H4) 9 1) (Y12 _) (fun _ _ _ e => by cases e) (strs_sz _) (by rw [L10]; simp; omega) fun v1 Ha g1 => ?_
   rw [R10]
   simp +decide only [ZS, ↓reduceIte]
   refine hN _ ⟨fun _ => trivial, ?_⟩
   clear hN N
   refine L11 fun N hN => ?_
   simp only [List.drop, List.take]
   simp +decide only [ZS, ↓reduceIte]
   refine D10 (boundH_c x k) ?_
   simp +decide only [ZS, ↓reduceIte]
   refine hN _ ⟨fun _ => trivial, ?_⟩
   clear hN N
   refine L11 fun N hN => ?_
   simp only [List.drop, List.take]
   simp +decide only [ZS, ↓reduceIte]
   refine O11 (by kernel_rfl) g1 (Y12 _) (fun _ _ _ e => by cases e) (strs_sz _) (by simp only [List.nil_append, L10]; omega) fun v2 Hb g2 => ?_
   rw [R10]
   simp +decide only [ZS, ↓reduceIte]
   refine hN _ ⟨fun _ => trivial, ?_⟩
   clear hN N
   refine L11 fun N hN => ?_
   simp only [List.drop, List.take]
   simp +decide only [ZS, ↓reduceIte]
   refine O11 (by kernel_rfl) (OutG.nil (Drop.refl Hb) 9 1) (Y12 _) (fun _ _ _ e => by cases e) (strs_sz _) (by rw [L10]; simp; omega) fun v3 Hc g3 => ?_
   rw [R10]
   simp +decide only [ZS, ↓reduceIte]
   refine hN _ ⟨fun _ => trivial, ?_⟩
   clear hN N
   refine L11 fun N hN => ?_
   simp only [List.drop, List.take]
   simp +decide only [ZS, ↓reduceIte]
   refine D10 (boundH_c y k) ?_
   simp +decide only [ZS, ↓reduceIte]
   refine hN _ ⟨fun h => (by cases h), ?_⟩
   clear hN N
   refine L11 fun N hN => ?_
   simp only [List.drop, List.take]
   simp +decide only [ZS, ↓reduceIte]
   refine O11 (by kernel_rfl) g3 (Y12 _) (fun _ _ _ e => by cases e) (strs_sz _) (by simp only [List.nil_append, L10]; omega) fun v4 Hd g4 => ?_
   rw [R10]
   simp +decide only [ZS, ↓reduceIte]
   refine hN _ ⟨fun h => (by cases h), ?_⟩
   clear hN N
   refine L11 fun N hN => ?_
   simp only [List.drop, List.take]
   simp +decide only [ZS, ↓reduceIte, g2.one]
   refine hN _ ⟨fun h => (by cases h), ?_⟩
   clear hN N
   refine L11 fun N hN => ?_
   simp only [List.drop, List.take]
   simp +decide only [ZS, ↓reduceIte, g4.one]
   refine hN _ ⟨fun h => (by cases h), wt_fin ?_⟩
   clear hN N
   simp only [List.nil_append, strs_appU] at g2 g4
   refine VW_see (s := ⟨_, Hd, []⟩) (i := 24) (H1 := Hb) (v' := .list (strs (d ++ boundH y k))) g4.drop (g4.view (by rw [L10]; simp only [List.length_append]; omega)) ?_
   refine VW_see (s := ⟨_, Hb, []⟩) (i := 23) (H1 := H4) (v' := .list (strs (c ++ boundH x k))) g2.drop (g2.view (by rw [L10]; simp only [List.length_append]; omega)) ?_
   clear g1 g2 g3 g4
   refine VW_name fun tm9 htm => ?_
   have w2 : tm9 2 = .list (strs a) := by rw [htm]; rfl
   have w3 : tm9 3 = .list (strs b) := by rw [htm]; rfl
   have w4 : tm9 4 = .list (strs c) := by rw [htm]; rfl
   have w5 : tm9 5 = .list (strs d) := by rw [htm]; rfl
   have w6 : tm9 6 = .ref x.av.cells := by rw [htm, C10]; rfl
   have w7 : tm9 7 = .ref y.av.cells := by rw [htm, C10]; rfl
   have w17 : tm9 17 = .list (exs x.parts) := by rw [htm]; rfl
   have w18 : tm9 18 = .list (exs y.parts) := by rw [htm]; rfl
   have w20 : tm9 20 = .int k := by rw [htm]; rfl
   have w21 : tm9 21 = .list (strs (a ++ bound x k)) := by rw [htm]; rfl
   have w22 : tm9 22 = .list (strs (b ++ bound y k)) := by rw [htm]; rfl
   have w23 : tm9 23 = .list (strs (c ++ boundH x k)) := by rw [htm]; rfl
   have w24 : tm9 24 = .list (strs (d ++ boundH y k)) := by rw [htm]; rfl
   clear htm
   have hih := ih _ hmx y.parts[k] (fr x k :: L) (fr y k :: M) H4 (hx.part hmx) (hy.part hmy) (hF.cons hlk k) (hp k _ _ hpx hpy) (fun h => by
    have h1 := fr_wid hpx h
    have h2 := hw h
    simp only [env, List.length_append, List.length_reverse]; omega)
   rw [env_rev, env_rev, env_rev, env_rev, hea, heb, hec, hed] at hih
   rw [show selN false (fr x k) = bound x k from (bound_vOf hnx hlt).symm, show selN false (fr y k) = bound y k from (bound_vOf hny hlt2).symm, show selN true (fr x k) = boundH x k from (boundH_hOf hnx hlt).symm, show selN true (fr y k) = boundH y k from (boundH_hOf hny hlt2).symm] at hih
   generalize x.parts[k] = px at *
   generalize y.parts[k] = py at *
   have hki : ((k : Int) < (x.parts.length : Int)) = True := eq_true (by omega)
   have hki2 : ((k : Int) < (y.parts.length : Int)) = True := eq_true (by omega)
   refine I10 (VW_regqE [] 14 (by kernel_rfl) (by kernel_rfl) (by kernel_rfl) fun N E hN hE => ?_)
   simp only [List.take, List.drop]
   simp +decide only [ZS, QS, ↓reduceIte, w17, w18, w20, w21, w22, w23, w24, e1, e2, nat0, Int.toNat_natCast, hki, hki2]
   refine J11 hih ?_
   simp +decide only [ZS, QS, ↓reduceIte, Bool.not_true]
   refine hN _ ?_
   clear hN hE N E
   refine P10 rfl (fun hc => ?_) (fun hc => ?_)
   ·cases hc
   refine G10 ?_
   refine U10 [] fun N E hN hE => ?_
   simp +decide only [ZS, ↓reduceIte, w20, wrapN (show k < 9223372036854775807 by omega)]
   refine hN _ ?_
   clear hN hE N E
   exact ⟨k + 1, ⟨hlt, w2, w3, w4, w5, w6, w7, w17, w18, rfl, rfl, rfl⟩, by omega⟩
  ·refine Z10 ?_
   refine B10 [] fun N E hN hE => ?_
   simp +decide only [ZS, ↓reduceIte]
   refine hN _ ?_
   clear hN hE N E
   refine J10 (F10 12 rfl ?_)
   simp +decide only [ZS, ↓reduceIte]
   exact hk
end
theorem sCanon_good {e : Ex} (hi : Inp e) (hc : check e = 0) : UG e (sCanon e) ∧ sCanon e = canonF e := by
 have he := hi.okk hc
 obtain ⟨h1, h2, h3, h4, h5⟩ := canon_good he
 have hs : sCanon e = canonF e := by unfold sCanon; rw [if_pos hc]
 rw [← hs] at h1 h2 h3 h4 h5
 exact ⟨⟨⟨h3, h2, by rw [h4]; exact he.2.2.1, by rw [h5]; exact he.2.2.2⟩, ⟨h3, by rw [h4]; exact he.2.2.1, by rw [h5]; exact he.2.2.2⟩, left_check hc h1 h2, h1⟩, hs⟩
theorem sCanon_twice {e : Ex} (hi : Inp e) (hc : check e = 0) : sCanon (sCanon e) = sCanon e := by
 obtain ⟨g, hs⟩ := sCanon_good hi hc
 have : sCanon (sCanon e) = canonF (sCanon e) := by
  show (if check (sCanon e) = 0 then canonF (sCanon e) else zeroEx) = _
  rw [if_pos g.c]
 rw [this, hs, canon_twice (hi.okk hc)]
theorem sUniq_twice {e : Ex} (hi : Inp e) (hc : check e = 0) : sUniq (sUniq e) = sUniq e := by
 obtain ⟨g, hs⟩ := sUniq_good hi hc
 have h1 : sUniq (sUniq e) = uniqG (allK (sUniq e)) (sUniq e) := by
  show (if check (sUniq e) = 0 then uniqG (allK (sUniq e)) (sUniq e) else zeroEx) = _
  rw [if_pos g.c]
 have ha := g.a
 have hk := g.ok.2.1
 rw [h1, hs]
 rw [hs] at ha hk
 exact uniq_twice (chk hc) ha hk
section
variable {H : HM}
theorem alphaOf_c {G : GT} (x y : Ex) (hx : Okk x) (hy : Okk y) (ha : alphaF x y [] = true) : PureF prog G 52 [x.av, y.av] H (.bool true) := by
 have h0 : alphaF x y (([] : List Nm).zip []) = true := ha
 have hc := refAlike_c (G := G) x y [] [] H hx hy trivial h0 (fun h => by
  have := hx.2.2.2
  have hb : bnd = 16777216 := rfl
  simp [env]; omega)
 refine M10 (fn := f52) func52 rfl (by kernel_rfl) (by kernel_rfl) (Nat.le_of_ble_eq_true (by kernel_rfl)) fun K hk => ?_
 refine B10 [] fun N E hN hE => ?_
 simp +decide only [ZS, ↓reduceIte]
 refine hN _ ?_
 clear hN hE N E
 refine B10 [] fun N E hN hE => ?_
 simp +decide only [ZS, ↓reduceIte]
 refine CallV.mono (CallV.view (Drop.refl _) (.cons (View.refl _) (.cons (View.refl _) (.cons View.nilr (.cons View.nilr (.cons View.nilr (.cons View.nilr .nil)))))) (CallF.callV (by kernel_rfl) (hc.2 (fun r H' => r = .ret (.bool true) ∧ H' = H) ⟨rfl, rfl⟩))) ?_
 rintro r' H' ⟨rfl, rfl⟩
 rw [R10]
 simp +decide only [ZS, ↓reduceIte]
 refine hN _ ?_
 clear hN hE N E
 refine J10 (F10 4 rfl ?_)
 simp +decide only [ZS, ↓reduceIte]
 exact hk
theorem canonLaw_c (a b : Ex) (hia : Inp a) (hib : Inp b) : PureF prog G0 12 [a.av, b.av] H (.bool true) := by
 have hbb : bnd = 16777216 := rfl
 have hlim : bnd ≤ lim := by decide
 refine M10 (fn := f12) func12 rfl (by kernel_rfl) (by kernel_rfl) (Nat.le_of_ble_eq_true (by kernel_rfl)) fun K hk => ?_
 refine B10 [] fun N E hN hE => ?_
 simp +decide only [ZS, ↓reduceIte]
 refine hN _ ?_
 clear hN hE N E
 refine B10 [] fun N E hN hE => ?_
 simp +decide only [ZS, ↓reduceIte]
 refine D10 (sCanon_c a hia) ?_
 simp +decide only [ZS, ↓reduceIte]
 refine O10 fun b5 hb5 => ?_
 have k5 : ∀ cs, (H.upd b5 (.cells 27 cs)) b5 = some (.cells 27 cs) := fun cs => HM.upd_same _ _ _
 simp +decide only [ZS, ↓reduceIte, k5]
 refine hN _ ?_
 clear hN hE N E
 try simp only [HM.upd_upd]
 refine I12 (i := 5) hb5 rfl ?_
 clear k5 hb5
 refine B10 [] fun N E hN hE => ?_
 simp +decide only [ZS, ↓reduceIte]
 refine D10 (sCanon_c b hib) ?_
 simp +decide only [ZS, ↓reduceIte]
 refine O10 fun b7 hb7 => ?_
 have k7 : ∀ cs, (H.upd b7 (.cells 27 cs)) b7 = some (.cells 27 cs) := fun cs => HM.upd_same _ _ _
 simp +decide only [ZS, ↓reduceIte, k7]
 refine hN _ ?_
 clear hN hE N E
 try simp only [HM.upd_upd]
 refine I12 (i := 7) hb7 rfl ?_
 clear k7 hb7
 refine B10 [] fun N E hN hE => ?_
 simp +decide only [ZS, ↓reduceIte]
 refine D10 (sUnique_c a hia) ?_
 simp +decide only [ZS, ↓reduceIte]
 refine O10 fun b9 hb9 => ?_
 have k9 : ∀ cs, (H.upd b9 (.cells 27 cs)) b9 = some (.cells 27 cs) := fun cs => HM.upd_same _ _ _
 simp +decide only [ZS, ↓reduceIte, k9]
 refine hN _ ?_
 clear hN hE N E
 try simp only [HM.upd_upd]
 refine I12 (i := 9) hb9 rfl ?_
 clear k9 hb9
 refine I10 (Y10 [] (fun s' => s'.tmps 39 = .bool (!decide (check a = 0) || !decide (check b = 0)) ∧ s'.tmps 2 = .ref a.av.cells ∧ s'.tmps 3 = .ref b.av.cells ∧ s'.tmps 5 = .ref (sCanon a).av.cells ∧ s'.tmps 6 = .int (check a) ∧ s'.tmps 7 = .ref (sCanon b).av.cells ∧ s'.tmps 8 = .int (check b) ∧ s'.tmps 9 = .ref (sUniq a).av.cells ∧ s'.tmps 10 = .int (check a) ∧ s'.H = H ∧ s'.defs = []) (fun N E hN hE => ?_) ?_)
 ·clear hE hk
  simp +decide only [ZS, ↓reduceIte]
  refine D10 (check_c a hia.1) ?_
  simp +decide only [ZS, ↓reduceIte]
  refine T10 (fun hb1 => ?_) (fun hb1 => ?_)
  ·simp +decide only [ZS, ↓reduceIte, hb1]
   refine hN _ ⟨?_, by rw [C10]; rfl, by rw [C10]; rfl, by rw [C10]; rfl, rfl, by rw [C10]; rfl, rfl, by rw [C10]; rfl, rfl, rfl, rfl⟩
   simp +decide only [ZS, ↓reduceIte]
   rw [hb1]; rfl
  ·simp +decide only [ZS, ↓reduceIte, hb1]
   refine D10 (check_c b hib.1) ?_
   simp +decide only [ZS, ↓reduceIte, hb1]
   refine hN _ ⟨?_, by rw [C10]; rfl, by rw [C10]; rfl, by rw [C10]; rfl, rfl, by rw [C10]; rfl, rfl, by rw [C10]; rfl, rfl, rfl, rfl⟩
   simp +decide only [ZS, ↓reduceIte]
   rw [hb1]; rfl
 rintro ⟨tm, H1, ds⟩ ⟨f39, f2, f3, f5, f6, f7, f8, f9, f10, gH, gds⟩
 obtain rfl : H1 = H := gH
 obtain rfl : ds = [] := gds
 rw [C10] at f2 f3 f5 f7 f9
 refine A10 39 _ f39 (A10 2 _ f2 (A10 3 _ f3 (A10 5 _ f5 (A10 6 _ f6 (A10 7 _ f7 (A10 8 _ f8 (A10 9 _ f9 (A10 10 _ f10 ?_))))))))
 have r1 : (decide (check a = 0) == decide (check a = 0)) = true := beq_self_eq_true _
 have r2 : (decide (check b = 0) == decide (check b = 0)) = true := beq_self_eq_true _
 have r3 : decide (check a = check a) = true := decide_eq_true rfl
 refine P10 rfl (fun hc => ?_) (fun hc => ?_)
 ·refine B10 [] fun N E hN hE => ?_
  simp +decide only [ZS, ↓reduceIte]
  refine D10 (check_c a hia.1) ?_
  simp +decide only [ZS, ↓reduceIte, r1]
  refine D10 (check_c b hib.1) ?_
  simp +decide only [ZS, ↓reduceIte, r1, r2, r3, decide_true]
  refine D10 (awake_c _) ?_
  simp +decide only [ZS, ↓reduceIte]
  refine hN _ ?_
  clear hN hE N E
  refine J10 (F10 4 rfl ?_)
  simp +decide only [ZS, ↓reduceIte]
  exact hk
 have hc' : (!decide (check a = 0) || !decide (check b = 0)) = false := hc
 simp only [Bool.or_eq_false_iff, Bool.not_eq_false', decide_eq_true_eq] at hc'
 obtain ⟨ca, cb⟩ := hc'
 obtain ⟨gc, hsc⟩ := sCanon_good hia ca
 obtain ⟨gd, hsd⟩ := sCanon_good hib cb
 obtain ⟨gu, hsu⟩ := sUniq_good hia ca
 have tc := sCanon_twice hia ca
 have tu := sUniq_twice hia ca
 have hoa := hia.okk ca
 have hob := hib.okk cb
 have hsame : (alphaF a b [] == Ex.eqb (sCanon a) (sCanon b)) = true := by
  rw [beq_iff_eq, Bool.eq_iff_iff, Ex.eqb_iff, hsc, hsd]
  exact canon_iff hoa hob
 obtain ⟨c, hcc⟩ : ∃ c, sCanon a = c := ⟨_, rfl⟩
 obtain ⟨d, hdd⟩ : ∃ d, sCanon b = d := ⟨_, rfl⟩
 obtain ⟨u, huu⟩ : ∃ u, sUniq a = u := ⟨_, rfl⟩
 rw [hcc] at gc tc hsame ⊢
 rw [hdd] at gd hsame ⊢
 rw [huu] at gu tu ⊢
 rw [ca, cb]
 refine G10 ?_
 refine B10 [] fun N E hN hE => ?_
 simp +decide only [ZS, ↓reduceIte]
 refine D10 (sAlpha_c a b hia hib ca cb) ?_
 simp +decide only [ZS, ↓reduceIte]
 refine hN _ ?_
 clear hN hE N E
 refine B10 [] fun N E hN hE => ?_
 simp +decide only [ZS, ↓reduceIte]
 refine D10 (sCanon_c c gc.inp) ?_
 rw [tc, gc.c]
 simp +decide only [ZS, ↓reduceIte]
 refine O10 fun b13 hb13 => ?_
 have k13 : ∀ cs, (H1.upd b13 (.cells 27 cs)) b13 = some (.cells 27 cs) := fun cs => HM.upd_same _ _ _
 simp +decide only [ZS, ↓reduceIte, k13]
 refine hN _ ?_
 clear hN hE N E
 try simp only [HM.upd_upd]
 refine I12 (i := 13) hb13 rfl ?_
 clear k13 hb13
 refine B10 [] fun N E hN hE => ?_
 simp +decide only [ZS, ↓reduceIte]
 refine D10 (sUnique_c u gu.inp) ?_
 rw [tu, gu.c]
 simp +decide only [ZS, ↓reduceIte]
 refine O10 fun b15 hb15 => ?_
 have k15 : ∀ cs, (H1.upd b15 (.cells 27 cs)) b15 = some (.cells 27 cs) := fun cs => HM.upd_same _ _ _
 simp +decide only [ZS, ↓reduceIte, k15]
 refine hN _ ?_
 clear hN hE N E
 try simp only [HM.upd_upd]
 refine I12 (i := 15) hb15 rfl ?_
 clear k15 hb15
 have sc : Ex.eqb c c = true := eqb_eq rfl
 have su : Ex.eqb u u = true := eqb_eq rfl
 refine B10 [] fun N E hN hE => ?_
 simp +decide only [ZS, ↓reduceIte, decide_true]
 refine D10 (alphaOf_c a c hoa gc.ok gc.a) ?_
 simp +decide only [ZS, ↓reduceIte, decide_true]
 refine D10 (alphaOf_c a u hoa gu.ok gu.a) ?_
 simp +decide only [ZS, ↓reduceIte, decide_true]
 refine D10 (same_c c d gc.inp.1) ?_
 simp +decide only [ZS, ↓reduceIte, decide_true, hsame]
 refine D10 (same_c c c gc.inp.1) ?_
 simp +decide only [ZS, ↓reduceIte, decide_true, hsame, sc]
 refine D10 (same_c u u gu.inp.1) ?_
 simp +decide only [ZS, ↓reduceIte, decide_true, hsame, sc, su]
 refine D10 (awake_c _) ?_
 simp +decide only [ZS, ↓reduceIte]
 refine hN _ ?_
 clear hN hE N E
 refine J10 (F10 4 rfl ?_)
 simp +decide only [ZS, ↓reduceIte]
 exact hk
end
end Go.V
