/- The program's scope: pairs of names, nodes that are alike. No condition. The program's scope: nodes that are alike. No condition. The program's scope: equal up to renaming. No condition. Equality up to renaming: plain laws. No condition. -/
import Derived.Test.YtjeiboididfgmaaGreatDoorQH
import Derived.Test.YtjeiboididfgmaaGreatDoorQYh
set_option linter.unusedVariables false
set_option linter.unusedSimpArgs false
set_option linter.defProp false
set_option maxRecDepth 100000
namespace Go.V
open Go Go.Proofs.Tryz
abbrev Nm := List ByteArray × List ByteArray
abbrev Pch := List (Nm × Nm)
def selN (h : Bool) (p : Nm) : List ByteArray := if h then p.2 else p.1
def lastM (a b : ByteArray) : List (ByteArray × ByteArray) → Option Bool
 | [] => none
 | (x, y) :: r => if x = a ∨ y = b then some (decide (x = a) && decide (y = b)) else lastM a b r
def sameP : Pch → ByteArray → ByteArray → Bool → Bool
 | [], a, b, _ => decide (a = b)
 | c :: ch, a, b, h => match lastM a b ((selN h c.1).zip (selN h c.2)).reverse with
  | some r => r
  | none => sameP ch a b h
def PchOk (ch : Pch) : Prop := ∀ c ∈ ch, ∀ h, (selN h c.1).length = (selN h c.2).length ∧ (selN h c.1).length ≤ bnd
section
variable {G : GT} {H : HM}
end
end Go.V
namespace Go.V
open Go Go.Proofs.Tryz
def armF (a b : Ar) : Bool := decide (a.op = b.op) && decide ((a.names.length : Int) = b.names.length)
def eqArms : List Ar → List Ar → Bool
 | [], [] => true
 | a :: l, b :: m => armF a b && eqArms l m
 | _, _ => false
def neF (a b : Ex) : Bool := !decide (a.k = b.k) || !decide (a.n = b.n) || !decide (a.t = b.t) || !decide ((a.names.length : Int) = b.names.length) || !decide ((a.l.length : Int) = b.l.length) || !decide ((a.arms.length : Int) = b.arms.length)
def alikeF (a b : Ex) : Bool := !neF a b && !(!(occ a).2.2 && !decide (a.s = b.s)) && !(decide (a.k = 17) && !decide (a.names.drop 1 = b.names.drop 1)) && eqArms a.arms b.arms
section
variable {G : GT} {H : HM}
end
end Go.V
namespace Go.V
open Go Go.Proofs.Tryz
def goA (a b : Ex) (ch : Pch) : Nat → List (Ex → Pch → Bool) → List Ex → Bool
 | i, r :: rs, x :: xs => r x (((vOf a i, hOf a i), (vOf b i, hOf b i)) :: ch) && goA a b ch (i + 1) rs xs
 | _, _, _ => true
def alphaF : Ex → Ex → Pch → Bool := Ex.para fun a rs b ch => alikeF a b && !((occ a).2.2 && !sameP ch (occ a).1 (occ b).1 (occ a).2.1) && goA a b ch 0 rs b.parts
theorem alphaF_eq (a b : Ex) (ch : Pch) : alphaF a b ch = (alikeF a b && !((occ a).2.2 && !sameP ch (occ a).1 (occ b).1 (occ a).2.1) && goA a b ch 0 (a.parts.map alphaF) b.parts) := by
 unfold alphaF; rw [Ex.para_eq]
theorem eqArms_at : ∀ {l m : List Ar} {j : Nat} (h : eqArms l m = true) (h1 : j < l.length) (h2 : j < m.length), armF l[j] m[j] = true
 | [], _, _, _, h1, _ => absurd h1 (by simp)
 | _ :: _, [], _, h, _, _ => by cases h
 | a :: l, b :: m, j, h, h1, h2 => by
  have h' : (armF a b && eqArms l m) = true := h
  simp only [Bool.and_eq_true] at h'
  cases j with
  | zero => exact h'.1
  | succ j => exact eqArms_at h'.2 (by simpa using h1) (by simpa using h2)
structure Like (a b : Ex) : Prop where
 k : a.k = b.k
 n : a.n = b.n
 t : a.t = b.t
 names : a.names.length = b.names.length
 l : a.l.length = b.l.length
 arms : a.arms.length = b.arms.length
 s : (occ a).2.2 = false → a.s = b.s
 labels : a.k = 17 → a.names.drop 1 = b.names.drop 1
 arm : eqArms a.arms b.arms = true
theorem alikeF_like {a b : Ex} : alikeF a b = true ↔ Like a b := by
 constructor
 ·intro h
  simp only [alikeF, neF, Bool.and_eq_true, Bool.not_eq_true', Bool.or_eq_false_iff, Bool.not_eq_false', decide_eq_true_eq] at h
  obtain ⟨⟨⟨⟨⟨⟨⟨⟨h1, h2⟩, h3⟩, h4⟩, h5⟩, h6⟩, h7⟩, h8⟩, h9⟩ := h
  refine ⟨h1, h2, h3, by omega, by omega, by omega, fun q => ?_, fun q => ?_, h9⟩
  ·rw [q] at h7; simpa using h7
  ·rw [decide_eq_true q] at h8; simpa using h8
 ·rintro ⟨h1, h2, h3, h4, h5, h6, h7, h8, h9⟩
  simp only [alikeF, neF, Bool.and_eq_true, Bool.not_eq_true', Bool.or_eq_false_iff, Bool.not_eq_false', decide_eq_true_eq]
  refine ⟨⟨⟨⟨⟨⟨⟨⟨h1, h2⟩, h3⟩, by omega⟩, by omega⟩, by omega⟩, ?_⟩, ?_⟩, h9⟩
  ·cases q : (occ a).2.2 with
   | true => rfl
   | false => simp [h7 q]
  ·by_cases q : a.k = 17
   ·simp [h8 q]
   ·simp [q]
theorem vOf_len2 {a b : Ex} (h : Like a b) (i : Nat) : (vOf a i).length = (vOf b i).length := by
 unfold vOf
 rw [h.l]
 split
 ·unfold ownV own1
  rw [h.k]
  split
  ·rw [List.length_take, List.length_take, h.names]
  ·split
   ·rw [List.length_take, List.length_take, h.names]
   ·rfl
 ·by_cases hi : i - b.l.length < a.arms.length
  ·have hj : i - b.l.length < b.arms.length := by rw [← h.arms]; exact hi
   rw [List.getElem?_eq_getElem hi, List.getElem?_eq_getElem hj]
   have := eqArms_at h.arm hi hj
   simp only [armF, Bool.and_eq_true, decide_eq_true_eq] at this
   exact Int.ofNat_inj.1 this.2
  ·rw [List.getElem?_eq_none (by omega), List.getElem?_eq_none (by rw [← h.arms]; omega)]
theorem hOf_len2 {a b : Ex} (h : Like a b) (i : Nat) : (hOf a i).length = (hOf b i).length := by
 unfold hOf
 rw [h.l]
 split
 ·unfold ownH
  rw [h.k]
  split
  ·exact h.names
  ·rfl
 ·rfl
theorem vOf_bnd {e : Ex} (hf : fit1 e) (i : Nat) : (vOf e i).length ≤ bnd := by
 obtain ⟨_, _, hn, _, _, _, hx⟩ := hf
 unfold vOf ownV
 split
 ·split
  ·rw [List.length_take]; omega
  ·split
   ·rw [List.length_take]; omega
   ·exact Nat.zero_le _
 ·split
  ·rename_i a ha
   exact (hx a (List.mem_of_getElem? ha)).2.1
  ·exact Nat.zero_le _
theorem hOf_bnd {e : Ex} (hf : fit1 e) (i : Nat) : (hOf e i).length ≤ bnd := by
 obtain ⟨_, _, hn, _⟩ := hf
 unfold hOf ownH
 split
 ·split
  ·omega
  ·exact Nat.zero_le _
 ·exact Nat.zero_le _
theorem PchOk.cons {a b : Ex} {ch : Pch} (hch : PchOk ch) (h : Like a b) (hf : fit1 a) (i : Nat) : PchOk (((vOf a i, hOf a i), (vOf b i, hOf b i)) :: ch) := by
 intro c hc
 rcases List.mem_cons.1 hc with rfl | hc
 ·intro q
  cases q
  ·exact ⟨vOf_len2 h i, vOf_bnd hf i⟩
  ·exact ⟨hOf_len2 h i, hOf_bnd hf i⟩
 ·exact hch c hc
theorem Like.parts {a b : Ex} (h : Like a b) : a.parts.length = b.parts.length := by
 rw [parts_len, parts_len, h.l, h.arms]
section
variable {G : GT}
end
end Go.V
namespace Go.V
open Go Go.Proofs.Tryz
theorem goA_iff (a b : Ex) (ch : Pch) : ∀ (i : Nat) (rs : List (Ex → Pch → Bool)) (xs : List Ex), goA a b ch i rs xs = true ↔ ∀ (j : Nat) (r : Ex → Pch → Bool) (x : Ex), rs[j]? = some r → xs[j]? = some x → r x (((vOf a (i + j), hOf a (i + j)), (vOf b (i + j), hOf b (i + j))) :: ch) = true
 | i, [], xs => by
  have : goA a b ch i [] xs = true := by cases xs <;> rfl
  simp [this]
 | i, r :: rs, [] => by
  have : goA a b ch i (r :: rs) [] = true := rfl
  simp [this]
 | i, r :: rs, x :: xs => by
  have e : goA a b ch i (r :: rs) (x :: xs) = (r x (((vOf a i, hOf a i), (vOf b i, hOf b i)) :: ch) && goA a b ch (i + 1) rs xs) := rfl
  rw [e, Bool.and_eq_true, goA_iff a b ch (i + 1) rs xs]
  constructor
  ·rintro ⟨h1, h2⟩ j r' x' hr hx
   cases j with
   | zero =>
    simp only [List.getElem?_cons_zero, Option.some.injEq] at hr hx
    subst hr hx
    exact h1
   | succ j =>
    have := h2 j r' x' (by simpa using hr) (by simpa using hx)
    rwa [show i + (j + 1) = i + 1 + j by omega]
  ·intro h
   refine ⟨h 0 r x rfl rfl, fun j r' x' hr hx => ?_⟩
   have := h (j + 1) r' x' (by simpa using hr) (by simpa using hx)
   rwa [show i + (j + 1) = i + 1 + j by omega] at this
def fr (e : Ex) (i : Nat) : Nm := (vOf e i, hOf e i)
theorem alpha_iff (a b : Ex) (L M : List Nm) : alphaF a b (L.zip M) = true ↔ Like a b ∧ ((occ a).2.2 = true → sameP (L.zip M) (occ a).1 (occ b).1 (occ a).2.1 = true) ∧ ∀ i x y, a.parts[i]? = some x → b.parts[i]? = some y → alphaF x y ((fr a i :: L).zip (fr b i :: M)) = true := by
 rw [alphaF_eq, Bool.and_eq_true, Bool.and_eq_true, alikeF_like, goA_iff, and_assoc]
 refine and_congr Iff.rfl (and_congr ?_ ?_)
 ·cases (occ a).2.2 <;> simp
 ·simp only [Nat.zero_add, List.getElem?_map]
  constructor
  ·intro h i x y hx hy
   exact h i _ y (by rw [hx]; rfl) hy
  ·intro h i r y hr hy
   obtain ⟨x, hx, rfl⟩ := Option.map_eq_some_iff.1 hr
   exact h i x y hx hy
def env (h : Bool) : List Nm → List ByteArray
 | [] => []
 | c :: L => (selN h c).reverse ++ env h L
def sameLs : List ByteArray → List ByteArray → ByteArray → ByteArray → Bool
 | x :: l, y :: m, a, b => if x = a ∨ y = b then decide (x = a) && decide (y = b) else sameLs l m a b
 | _, _, a, b => decide (a = b)
def Fr : List Nm → List Nm → Prop
 | [], [] => True
 | c :: L, d :: M => (∀ h, (selN h c).length = (selN h d).length) ∧ Fr L M
 | _, _ => False
theorem lastM_app (a b : ByteArray) : ∀ (l m l2 m2 : List ByteArray), l.length = m.length → sameLs (l ++ l2) (m ++ m2) a b = (match lastM a b (l.zip m) with | some r => r | none => sameLs l2 m2 a b)
 | [], [], _, _, _ => rfl
 | [], _ :: _, _, _, h => by simp at h
 | _ :: _, [], _, _, h => by simp at h
 | x :: l, y :: m, l2, m2, h => by
  have ih := lastM_app a b l m l2 m2 (by simpa using h)
  simp only [List.cons_append, List.zip_cons_cons, sameLs, lastM]
  by_cases q : x = a ∨ y = b
  ·rw [if_pos q, if_pos q]
  ·rw [if_neg q, if_neg q]; exact ih
theorem zip_rev {α β : Type} : ∀ (l : List α) (m : List β), l.length = m.length → (l.zip m).reverse = l.reverse.zip m.reverse
 | [], [], _ => rfl
 | [], _ :: _, h => by simp at h
 | _ :: _, [], h => by simp at h
 | x :: l, y :: m, h => by
  have hl : l.length = m.length := by simpa using h
  rw [List.zip_cons_cons, List.reverse_cons, zip_rev l m hl, List.reverse_cons, List.reverse_cons, List.zip_append (by simp [hl])]; rfl
theorem same_env (a b : ByteArray) (h : Bool) : ∀ (L M : List Nm), Fr L M → sameP (L.zip M) a b h = sameLs (env h L) (env h M) a b
 | [], [], _ => rfl
 | [], _ :: _, q => q.elim
 | _ :: _, [], q => q.elim
 | c :: L, d :: M, q => by
  have ih := same_env a b h L M q.2
  have hl := q.1 h
  rw [List.zip_cons_cons]
  simp only [sameP, env]
  rw [lastM_app _ _ _ _ _ _ (by simp [hl]), zip_rev _ _ hl, ih]
  all_goals (cases lastM a b ((selN h c).reverse.zip (selN h d).reverse) <;> rfl)
theorem Fr.len {h : Bool} : ∀ {L M : List Nm}, Fr L M → (env h L).length = (env h M).length
 | [], [], _ => rfl
 | [], _ :: _, q => q.elim
 | _ :: _, [], q => q.elim
 | c :: L, d :: M, q => by
  simp only [env, List.length_append, List.length_reverse, q.1 h, Fr.len q.2]
theorem Fr.refl : ∀ (L : List Nm), Fr L L
 | [] => trivial
 | _ :: L => ⟨fun _ => rfl, Fr.refl L⟩
theorem Fr.symm : ∀ {L M : List Nm}, Fr L M → Fr M L
 | [], [], _ => trivial
 | [], _ :: _, q => q.elim
 | _ :: _, [], q => q.elim
 | _ :: _, _ :: _, q => ⟨fun h => (q.1 h).symm, Fr.symm q.2⟩
theorem Fr.trans : ∀ {L M N : List Nm}, Fr L M → Fr M N → Fr L N
 | [], [], [], _, _ => trivial
 | _ :: _, _ :: _, _ :: _, q, q' => ⟨fun h => (q.1 h).trans (q'.1 h), Fr.trans q.2 q'.2⟩
 | [], _ :: _, _, q, _ => q.elim
 | _ :: _, [], _, q, _ => q.elim
 | [], [], _ :: _, _, q => q.elim
 | _ :: _, _ :: _, [], _, q => q.elim
theorem Fr.cons {a b : Ex} {L M : List Nm} (h : Like a b) (q : Fr L M) (i : Nat) : Fr (fr a i :: L) (fr b i :: M) :=
 ⟨fun h' => (by cases h' with | false => exact vOf_len2 h i | true => exact hOf_len2 h i), q⟩
theorem Like.refl (a : Ex) (h : eqArms a.arms a.arms = true) : Like a a := ⟨rfl, rfl, rfl, rfl, rfl, rfl, fun _ => rfl, fun _ => rfl, h⟩
theorem eqArms_symm : ∀ {l m : List Ar}, eqArms l m = true → eqArms m l = true
 | [], [], _ => rfl
 | [], _ :: _, h => by cases h
 | _ :: _, [], h => by cases h
 | a :: l, b :: m, h => by
  have h' : (armF a b && eqArms l m) = true := h
  show (armF b a && eqArms m l) = true
  simp only [Bool.and_eq_true, armF, decide_eq_true_eq] at h' ⊢
  exact ⟨⟨h'.1.1.symm, h'.1.2.symm⟩, eqArms_symm h'.2⟩
theorem eqArms_trans : ∀ {l m n : List Ar}, eqArms l m = true → eqArms m n = true → eqArms l n = true
 | [], [], [], _, _ => rfl
 | [], _ :: _, _, h, _ => by cases h
 | _ :: _, [], _, h, _ => by cases h
 | [], [], _ :: _, _, h => by cases h
 | _ :: _, _ :: _, [], _, h => by cases h
 | a :: l, b :: m, c :: n, h, h2 => by
  have h' : (armF a b && eqArms l m) = true := h
  have h2' : (armF b c && eqArms m n) = true := h2
  show (armF a c && eqArms l n) = true
  simp only [Bool.and_eq_true, armF, decide_eq_true_eq] at h' h2' ⊢
  exact ⟨⟨h'.1.1.trans h2'.1.1, h'.1.2.trans h2'.1.2⟩, eqArms_trans h'.2 h2'.2⟩
theorem occ_kind {a b : Ex} (h : a.k = b.k) : (occ a).2 = (occ b).2 := by
 unfold occ
 rw [h]
 split
 ·rfl
 ·split <;> rfl
theorem Like.symm {a b : Ex} (h : Like a b) : Like b a := ⟨h.k.symm, h.n.symm, h.t.symm, h.names.symm, h.l.symm, h.arms.symm, fun q => (h.s (by rw [occ_kind h.k]; exact q)).symm, fun q => (h.labels (h.k.trans q)).symm, eqArms_symm h.arm⟩
theorem Like.trans {a b c : Ex} (h : Like a b) (g : Like b c) : Like a c := ⟨h.k.trans g.k, h.n.trans g.n, h.t.trans g.t, h.names.trans g.names, h.l.trans g.l, h.arms.trans g.arms, fun q => (h.s q).trans (g.s (by rw [← occ_kind h.k]; exact q)), fun q => (h.labels q).trans (g.labels (h.k.symm.trans q)), eqArms_trans h.arm g.arm⟩
theorem alpha_left (a : Ex) : ∀ (b : Ex) (L M : List Nm), alphaF a b (L.zip M) = true → left a = left b := by
 induction a using Ex.ind with
 | step a ih =>
  intro b L M hab
  obtain ⟨h1, _, h3⟩ := (alpha_iff a b L M).1 hab
  have : a.parts.map left = b.parts.map left := by
   refine List.ext_getElem? fun i => ?_
   rw [List.getElem?_map, List.getElem?_map]
   by_cases hi : i < a.parts.length
   ·have hib : i < b.parts.length := by rw [← h1.parts]; exact hi
    have hx := List.getElem?_eq_getElem hi
    have hy := List.getElem?_eq_getElem hib
    rw [hx, hy]
    show some (left _) = some (left _)
    rw [ih _ (List.mem_of_getElem? hx) _ _ _ (h3 i _ _ hx hy)]
   ·rw [List.getElem?_eq_none (by omega), List.getElem?_eq_none (by rw [← h1.parts]; omega)]
  funext n d
  rw [left_eq, left_eq, this]
end Go.V
