/- The order of strings and the decimal digits, by small steps. No condition. -/
import Derived.Test.YtjeiboididfgmaaGreatDoorWm
set_option linter.unusedVariables false
set_option linter.unusedSimpArgs false
namespace Go.V
open Go Go.Proofs.Tryz

/-! ### Strings in order -/
def leL : List UInt8 → List UInt8 → Bool
  | [], _ => true
  | _ :: _, [] => false
  | a :: l, b :: m => if Nat.blt a.toNat b.toNat then true else if Nat.blt b.toNat a.toNat then false else leL l m
theorem leL_eq : ∀ (x y : List UInt8), leL x y = decide (x ≤ y)
  | [], y => by simp [leL]
  | a :: l, [] => by simp [leL, ← List.not_lt]
  | a :: l, b :: m => by
    have ih := leL_eq l m
    have e : (a :: l ≤ b :: m) ↔ a < b ∨ a = b ∧ l ≤ m := by
      rw [← List.not_lt, List.cons_lt_cons_iff, ← List.not_lt]
      constructor
      · intro h
        by_cases h1 : a < b
        · exact .inl h1
        · by_cases h2 : a = b
          · exact .inr ⟨h2, fun h3 => h (.inr ⟨h2.symm, h3⟩)⟩
          · exfalso
            refine h (.inl ?_)
            have h1' : ¬ a.toNat < b.toNat := h1
            have h2' : a.toNat ≠ b.toNat := fun e => h2 (UInt8.toNat_inj.1 e)
            show b.toNat < a.toNat
            omega
      · rintro (h | ⟨rfl, h⟩) (h' | ⟨h1, h'⟩)
        · have h1 : a.toNat < b.toNat := h
          have h2 : b.toNat < a.toNat := h'
          omega
        · subst h1
          have h1 : b.toNat < b.toNat := h
          omega
        · have h2 : a.toNat < a.toNat := h'
          omega
        · exact h h'
    unfold leL
    have n1 : Nat.blt a.toNat b.toNat = decide (a < b) := by
      rw [Bool.eq_iff_iff, decide_eq_true_iff]; simp [Nat.blt, Nat.ble_eq]; rfl
    have n2 : Nat.blt b.toNat a.toNat = decide (b < a) := by
      rw [Bool.eq_iff_iff, decide_eq_true_iff]; simp [Nat.blt, Nat.ble_eq]; rfl
    rw [n1, n2, ih]
    by_cases h1 : a < b
    · rw [decide_eq_true h1, if_pos rfl]
      exact (decide_eq_true (e.2 (.inl h1))).symm
    · by_cases h2 : b < a
      · rw [decide_eq_false h1, decide_eq_true h2]
        simp only [Bool.false_eq_true, if_false, if_true]
        refine (decide_eq_false fun h => ?_).symm
        rcases e.1 h with h | ⟨rfl, _⟩
        · exact h1 h
        · exact h1 h2
      · have h3 : a = b := by
          refine UInt8.toNat_inj.1 ?_
          have h1' : ¬ a.toNat < b.toNat := h1
          have h2' : ¬ b.toNat < a.toNat := h2
          omega
        rw [decide_eq_false h1, decide_eq_false h2]
        simp only [Bool.false_eq_true, if_false]
        refine decide_eq_decide.2 ?_
        rw [e]
        exact ⟨fun h => .inr ⟨h3, h⟩, fun h => h.elim (fun h => absurd h h1) (·.2)⟩
theorem leL_trans {x y z : List UInt8} (h1 : leL x y = true) (h2 : leL y z = true) : leL x z = true := by
  rw [leL_eq, decide_eq_true_iff] at *
  exact List.le_trans h1 h2
theorem leL_total (x y : List UInt8) : (leL x y || leL y x) = true := by
  rw [leL_eq, leL_eq]
  rcases List.le_total x y with h | h <;> simp [h]
theorem leL_antisymm {x y : List UInt8} (h1 : leL x y = true) (h2 : leL y x = true) : x = y := by
  rw [leL_eq, decide_eq_true_iff] at *
  exact List.le_antisymm h1 h2
def insB (a : ByteArray) : List ByteArray → List ByteArray
  | [] => [a]
  | b :: l => if leL a.data.toList b.data.toList then a :: b :: l else b :: insB a l
def isort : List ByteArray → List ByteArray
  | [] => []
  | a :: l => insB a (isort l)
theorem insB_perm (a : ByteArray) : ∀ l, (insB a l).Perm (a :: l)
  | [] => .refl _
  | b :: l => by
    unfold insB
    split
    · exact .refl _
    · exact ((insB_perm a l).cons b).trans (List.Perm.swap a b l)
theorem isort_perm : ∀ l, (isort l).Perm l
  | [] => .refl _
  | a :: l => (insB_perm a _).trans ((isort_perm l).cons a)
def SortedB (l : List ByteArray) : Prop := l.Pairwise fun x y => leL (bytes x) (bytes y) = true
theorem insB_sorted (a : ByteArray) : ∀ l, SortedB l → SortedB (insB a l)
  | [], _ => by simp [insB, SortedB]
  | b :: l, h => by
    have h' := List.pairwise_cons.1 h
    unfold insB
    split
    · rename_i hab
      refine List.pairwise_cons.2 ⟨fun x hx => ?_, h⟩
      rcases List.mem_cons.1 hx with rfl | hx
      · exact hab
      · exact leL_trans hab (h'.1 x hx)
    · rename_i hab
      refine List.pairwise_cons.2 ⟨fun x hx => ?_, insB_sorted a l h'.2⟩
      rcases List.mem_cons.1 ((insB_perm a l).mem_iff.1 hx) with rfl | hx
      · have := leL_total (bytes x) (bytes b)
        simp only [bytes] at this ⊢
        simp only [Bool.or_eq_true] at this
        exact this.resolve_left hab
      · exact h'.1 x hx
theorem isort_sorted : ∀ l, SortedB (isort l)
  | [] => by simp [isort, SortedB]
  | a :: l => insB_sorted a _ (isort_sorted l)
theorem sortB_sorted (l : List ByteArray) : SortedB (sortB l) := by
  unfold SortedB sortB
  rw [List.pairwise_map]
  have := List.pairwise_mergeSort (le := fun x y : List UInt8 => decide (x ≤ y)) (fun a b c h1 h2 => by
      rw [← leL_eq] at *; exact leL_trans h1 h2) (fun a b => by rw [← leL_eq, ← leL_eq]; exact leL_total a b) (l.map bytes)
  refine this.imp fun {a b} h => ?_
  rw [leL_eq]; exact h
theorem sorted_unique {l m : List ByteArray} (hp : l.Perm m) (h1 : SortedB l) (h2 : SortedB m) : l = m := by
  refine List.Perm.eq_of_pairwise (fun a b _ _ h3 h4 => ?_) h1 h2 hp
  have e := leL_antisymm h3 h4
  rw [← bytes_mk a, ← bytes_mk b, e]
theorem sortB_isort {l m : List ByteArray} (h : l.Perm m) : sortB l = isort m :=
  sorted_unique ((sortB_perm l).trans (h.trans (isort_perm m).symm)) (sortB_sorted l) (isort_sorted m)

/-! ### Digits -/
def dig (d : Nat) : UInt8 := UInt8.ofNat (48 + d)
def digK : Nat → Nat → List UInt8 → List UInt8
  | 0, _, acc => acc
  | f + 1, u, acc => if Nat.blt u 10 then dig u :: acc else digK f (u / 10) (dig (u % 10) :: acc)
theorem digK_eq : ∀ (f u : Nat) (acc : List UInt8), u < 10 ^ f → 0 < f → digK f u acc = Lib.decDigits u ++ acc
  | 0, _, _, _, h => absurd h (by omega)
  | f + 1, u, acc, h, _ => by
    unfold digK
    rw [Lib.decDigits]
    by_cases hu : u < 10
    · rw [if_pos (by rw [Nat.blt, Nat.ble_eq]; exact hu), dif_pos hu]; rfl
    · rw [if_neg (by rw [Nat.blt, Nat.ble_eq]; exact hu), dif_neg hu]
      cases f with
      | zero => simp at h; omega
      | succ f =>
        rw [digK_eq (f + 1) (u / 10) _ (by rw [Nat.pow_succ] at h; omega) (by omega), List.append_assoc]; rfl
def itoaK (n : Nat) : ByteArray := ⟨(digK 20 n []).toArray⟩
theorem itoaK_eq {n : Nat} (h : n ≤ 9223372036854775807) : itoaK n = itoa n := by
  unfold itoaK itoa
  rw [digK_eq 20 n [] (by have : 9223372036854775807 < 10 ^ 20 := by decide
                          omega) (by decide), List.append_nil]
  unfold Lib.itoa
  rw [if_neg (by omega)]; rfl
theorem digK_len : ∀ (f u : Nat) (acc : List UInt8), (digK f u acc).length ≤ f + acc.length
  | 0, _, acc => by simp [digK]
  | f + 1, u, acc => by
    unfold digK
    split
    · simp; omega
    · have := digK_len f (u / 10) (dig (u % 10) :: acc)
      simp at this; omega
theorem itoaK_size (n : Nat) : (itoaK n).size ≤ 20 := by
  have := digK_len 20 n []
  simpa [itoaK, ByteArray.size] using this
end Go.V
