/- The evaluator's parameters for this program, and that they are as is asked. No condition. -/
import Derived.Test.YtjeiboididfgmaaGreatDoorZa
import Derived.Test.YtjeiboididfgmaaGreatDoorYv
import Derived.Test.YtjeiboididfgmaaGreatDoorYt
import Derived.Test.YtjeiboididfgmaaGreatDoorWb
set_option linter.unusedVariables false
set_option linter.unusedSimpArgs false
set_option linter.defProp false
set_option maxRecDepth 100000
namespace Go.V
open Go Go.Proofs.Tryz

/-! ### Package-level tables -/
/-- syntax.shapes, row by row. -/
def shTab : List (List AV) := [
  [.int 1, .int 0, .int 0, .int 0, .int 0, .int 0, .bool false, .int 0, .int 0],
  [.int 0, .int 0, .int 0, .int 0, .int 0, .int 0, .bool false, .int (-999999999), .int 999999999],
  [.int 0, .int 0, .int 0, .int 0, .int 0, .int 0, .bool false, .int 0, .int 1],
  [.int 0, .int 0, .int 0, .int 0, .int 0, .int 0, .bool false, .int 0, .int 0],
  [.int 0, .int 0, .int 1, .int 0, .int 1, .int 0, .bool false, .int 0, .int 0],
  [.int 0, .int 0, .int 0, .int 0, .int 2, .int 0, .bool false, .int 0, .int 0],
  [.int 0, .int 0, .int 1, .int 0, .int 2, .int 0, .bool false, .int 0, .int 0],
  [.int 0, .int 0, .int 2, .int 0, .int 2, .int 0, .bool false, .int 0, .int 0],
  [.int 0, .int 0, .int 0, .int 0, .int 3, .int 0, .bool false, .int 0, .int 0],
  [.int 3, .int 0, .int 0, .int 0, .int 2, .int 0, .bool false, .int 0, .int 0],
  [.int 2, .int 0, .int 0, .int 0, .int 0, .int 4, .bool false, .int 0, .int 0],
  [.int 0, .int 0, .int 0, .int 0, .int 1, .int 0, .bool true, .int 0, .int 0],
  [.int 1, .int 0, .int 0, .int 0, .int 1, .int 0, .bool false, .int 0, .int 0],
  [.int 1, .int 1, .int 0, .int 0, .int 1, .int 0, .bool false, .int 0, .int 0],
  [.int 2, .int 0, .int 0, .int 0, .int 1, .int 0, .bool true, .int 0, .int 1],
  [.int 2, .int 0, .int 1, .int 0, .int 1, .int 0, .bool true, .int 0, .int 0],
  [.int 2, .int 0, .int 0, .int 0, .int 1, .int 0, .bool false, .int 0, .int 0],
  [.int 0, .int 0, .int 1, .int 12, .int 3, .int 0, .bool false, .int 0, .int 0],
  [.int 1, .int 0, .int 0, .int 0, .int 1, .int 0, .bool false, .int 0, .int 0],
  [.int 1, .int 0, .int 0, .int 0, .int 0, .int 0, .bool false, .int 0, .int 0]]
def shAll : List AV := shTab.flatten
def G0 (g : Nat) : Option (List AV) := if Nat.beq g 0 then some shAll else if Nat.beq g 1 then some (spaceTab.map AV.val) else if Nat.beq g 3 then some (powTab.map AV.val) else none
theorem gndL_val : ∀ (l : List Value), gndL (l.map AV.val) = true
  | [] => rfl
  | v :: l => by simp only [List.map_cons, gndL, gnd, Bool.true_and]; exact gndL_val l
theorem gndL_strs : ∀ (l : List ByteArray), gndL (strs l) = true
  | [] => rfl
  | s :: l => by
    have := gndL_strs l
    simp only [strs, List.map_cons, gndL, gnd, Bool.true_and] at this ⊢; exact this
theorem shAll_gnd : gndL shAll = true := by kernel_rfl
theorem G0_gnd (g : Nat) (cs : List AV) (h : G0 g = some cs) : gndL cs = true := by
  unfold G0 at h
  split at h
  · cases h; exact shAll_gnd
  split at h
  · cases h; exact gndL_val _
  split at h
  · cases h; exact gndL_val _
  · cases h
theorem tabs0 : Tabs G0 := ⟨by
    unfold G0
    rw [if_neg (by decide), if_pos (by decide)], by
    unfold G0
    rw [if_neg (by decide), if_neg (by decide), if_pos (by decide)]⟩

/-! ### Functions of the library, by value -/
def hKw : List AV → Option AV
  | [.val (.string s)] => some (.val (.bool (keywords.any fun x => eqBA x s)))
  | _ => none
def hItoa : List AV → Option AV
  | [.val (.int .i64 (.ofNat n))] => if Nat.ble n 9223372036854775807 then some (.val (.string (itoaK n))) else none
  | _ => none
def strKeys : List (AV × AV) → Bool
  | [] => true
  | (.val (.string s), _) :: es => if Nat.ble s.size lim then strKeys es else false
  | _ => false
def hSorted : List AV → Option AV
  | [.imap es] => if strKeys es && Nat.ble es.length lim then some (.list (strs (isort (keyStrs es)))) else none
  | _ => none
theorem strKeys_ok : ∀ {es : List (AV × AV)}, strKeys es = true → ∀ e ∈ es, ∃ s, e.1 = .str s ∧ s.size ≤ lim
  | [], _, _, h => by cases h
  | (k, v) :: es, h, e, he => by
    unfold strKeys at h
    split at h
    · rename_i heq; cases heq
    · rename_i s v' es' heq
      cases heq
      split at h
      · rename_i hs
        rcases List.mem_cons.1 he with rfl | he
        · exact ⟨s, rfl, Nat.le_of_ble_eq_true hs⟩
        · exact strKeys_ok h e he
      · cases h
    · cases h
theorem hKw_ok {all : List AV} {v : AV} (h : hKw all = some v) : gnd v = true ∧ ∀ H, PureF prog G0 105 all H v := by
  unfold hKw at h
  split at h <;> cases h
  rename_i s
  refine ⟨rfl, fun H => ?_⟩
  have : (keywords.any fun x => eqBA x s) = has keywords s := by
    unfold has; simp only [eqBA_eq]
  rw [this]
  exact keyword_c tabs0 s
theorem hItoa_ok {all : List AV} {v : AV} (h : hItoa all = some v) : gnd v = true ∧ ∀ H, PureF prog G0 107 all H v := by
  unfold hItoa at h
  split at h <;> try (cases h; done)
  split at h <;> cases h
  rename_i n hn
  refine ⟨rfl, fun H => ?_⟩
  have hn := Nat.le_of_ble_eq_true hn
  have h20 := itoaK_size n
  rw [itoaK_eq hn] at h20 ⊢
  exact itoa_c tabs0 n hn (by unfold lim; omega)
theorem hSorted_ok (hsn : ∀ H, PureF prog G0 133 [.nil0] H .unit) {all : List AV} {v : AV} (h : hSorted all = some v) : gnd v = true ∧ ∀ H, PureF prog G0 56 all H v := by
  unfold hSorted at h
  split at h <;> try (cases h; done)
  split at h <;> cases h
  rename_i es hc
  simp only [Bool.and_eq_true] at hc
  exact ⟨gndL_strs _, fun H => sorted_c hsn es (strKeys_ok hc.1) (Nat.le_of_ble_eq_true hc.2)⟩
def hook1 (f : Nat) : Option (List AV → Option AV) := if Nat.beq f 105 then some hKw else if Nat.beq f 107 then some hItoa else none
def hook0 (f : Nat) : Option (List AV → Option AV) := if Nat.beq f 56 then some hSorted else hook1 f
def dq0 (f : Nat) : Bool := Nat.beq f 67
def clone0 (f : Nat) : Option (Nat × Nat) := if Nat.beq f 123 then some (9, 1) else if Nat.beq f 124 then some (27, 7) else if Nat.beq f 125 then some (85, 9) else none
def memN (f : Nat) : List Nat → Bool
  | [] => false
  | a :: l => if Nat.beq a f then true else memN f l
/-- Whose results stay objects of their own. -/
def keep0 (fv : AV) (o : Oper) : Bool := match fv with
  | .func (.func f) _ _ => if memN f [123, 124, 125, 116, 72, 114, 141, 71, 75, 77, 97] then true
    else if Nat.beq f 57 then (o.pos == "scope.go:575" || o.pos == "scope.go:574") else false
  | _ => false
noncomputable def C1 : Cfg := ⟨prog, G0, hook1, keep0, dq0, clone0⟩
noncomputable def C0 : Cfg := ⟨prog, G0, hook0, keep0, dq0, clone0⟩
theorem clone_ok {f e sz : Nat} (h : clone0 f = some (e, sz)) (x : AV) (H : HM) (ys : List AV) (K : ARes → HM → Prop) (hs : srcOf H x = some ys) (hz : ∀ y ∈ ys, y.cells.length = sz) (hl : ys.length ≤ lim) (h1 : ys = [] → K (.ret .nil0) H)
    (h2 : ys ≠ [] → ∀ b cap, H b = none → K (.ret (.mlist b ys.length cap)) (H.upd b (.row e sz cap ys))) : Plain prog f = true ∧ CallF prog G0 f [x] H K := by
  unfold clone0 at h
  split at h
  · rename_i hf
    obtain rfl := Nat.eq_of_beq_eq_true hf
    cases h
    exact clone_c (fn := f123) (T := 23) func123 rfl (by kernel_rfl) rfl rfl td23 ti9 (by decide) hs hz hl h1 h2
  split at h
  · rename_i hf
    obtain rfl := Nat.eq_of_beq_eq_true hf
    cases h
    exact clone_c (fn := f124) (T := 24) func124 rfl (by kernel_rfl) rfl rfl td24 ti27 (by decide) hs hz hl h1 h2
  split at h
  · rename_i hf
    obtain rfl := Nat.eq_of_beq_eq_true hf
    cases h
    exact clone_c (fn := f125) (T := 25) func125 rfl (by kernel_rfl) rfl rfl td25 ti85 (by decide) hs hz hl h1 h2
  · cases h
theorem dq_ok (k : Nat) (h : dq0 k = true) : DQ prog k := by
  obtain rfl := Nat.eq_of_beq_eq_true h
  exact dq_caught
theorem mixed_ok : prog.follows .mixedOrders = true := by kernel_rfl
theorem hook1_ok (f : Nat) (g : List AV → Option AV) (all : List AV) (v : AV) (hf : hook1 f = some g) (hg : g all = some v) : gnd v = true ∧ ∀ H, PureF prog G0 f all H v := by
  unfold hook1 at hf
  split at hf
  · rename_i h
    obtain rfl := Nat.eq_of_beq_eq_true h
    cases hf
    exact hKw_ok hg
  split at hf
  · rename_i h
    obtain rfl := Nat.eq_of_beq_eq_true h
    cases hf
    exact hItoa_ok hg
  · cases hf
theorem cok1 : COk C1 := ⟨mixed_ok, G0_gnd, hook1_ok, dq_ok, fun f e sz h => clone_ok h⟩
theorem sort_nil : yields C1 200 133 [.nil0] .unit = true := by kernel_rfl
theorem cok0 : COk C0 := ⟨mixed_ok, G0_gnd, fun f g all v hf hg => by
    simp only [C0, hook0] at hf
    split at hf
    · rename_i h
      obtain rfl := Nat.eq_of_beq_eq_true h
      cases hf
      exact hSorted_ok (yields_sound cok1 sort_nil).2 hg
    · exact hook1_ok f g all v hf hg, dq_ok, fun f e sz h => clone_ok h⟩
end Go.V
