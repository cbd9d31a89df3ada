/- An evaluator for closed runs: what closed calls yield, told once. No condition. -/
import Derived.Test.YtjeiboididfgmaaGreatDoorYs
set_option linter.unusedVariables false
set_option linter.unusedSimpArgs false
namespace Go.V
open Go

/-- Closed calls with what they yield, function by function. -/
abbrev Told := List (Nat × List (List AV × AV))
def toldOf : Told → Nat → Option (List (List AV × AV))
  | [], _ => none
  | (k, rows) :: l, f => if Nat.beq k f then some rows else toldOf l f
def rowOf : List (List AV × AV) → List AV → Option AV
  | [], _ => none
  | (a, v) :: l, all => if eqL a all then some v else rowOf l all
def toldHook (hook : Nat → Option (List AV → Option AV)) (T : Told) (f : Nat) : Option (List AV → Option AV) := match toldOf T f with
  | some rows => some (rowOf rows)
  | none => hook f
def Cfg.told (C : Cfg) (T : Told) : Cfg := { C with hook := toldHook C.hook T }
def RowOk (C : Cfg) (f : Nat) (r : List AV × AV) : Prop := gnd r.2 = true ∧ ∀ H, PureF C.P C.G f r.1 H r.2
def ToldOk (C : Cfg) (T : Told) : Prop := ∀ f rows, (f, rows) ∈ T → ∀ r ∈ rows, RowOk C f r
theorem toldOf_mem {f : Nat} {rows : List (List AV × AV)} : ∀ {T : Told}, toldOf T f = some rows → (f, rows) ∈ T
  | [], h => by cases h
  | (k, r) :: T, h => by
    unfold toldOf at h
    split at h
    · rename_i e
      cases h
      rw [Nat.eq_of_beq_eq_true e]; simp
    · exact List.mem_cons_of_mem _ (toldOf_mem h)
theorem rowOf_mem {all : List AV} {v : AV} : ∀ {rows : List (List AV × AV)}, rowOf rows all = some v → (all, v) ∈ rows
  | [], h => by cases h
  | (a, x) :: rows, h => by
    unfold rowOf at h
    split at h
    · rename_i e
      cases h
      rw [eqL_eq e]; simp
    · exact List.mem_cons_of_mem _ (rowOf_mem h)
theorem COk.told {C : Cfg} (h : COk C) {T : Told} (hT : ToldOk C T) : COk (C.told T) where
  mixed := h.mixed
  glob := h.glob
  dq := h.dq
  clone := h.clone
  hook := by
    intro f g all v hf hg
    simp only [Cfg.told, toldHook] at hf
    split at hf
    · rename_i rows e
      cases hf
      exact hT f rows (toldOf_mem e) _ (rowOf_mem hg)
    · exact h.hook f g all v hf hg
/-- Does a closed call yield this? -/
noncomputable def yields (C : Cfg) (fuel : Nat) (f : FuncId) (args : List AV) (v : AV) : Bool := match fclosed C fuel f args with
  | some u => eqA u v
  | none => false
theorem yields_sound {C : Cfg} (hC : COk C) {fuel : Nat} {f : FuncId} {args : List AV} {v : AV} (h : yields C fuel f args v = true) : RowOk C f (args, v) := by
  unfold yields at h
  split at h
  · rename_i u e
    rw [fclosed_eq] at e
    obtain rfl := eqA_eq h
    refine ⟨?_, fun H => closed_sound hC e H⟩
    unfold closed at e
    split at e <;> try (cases e; done)
    split at e <;> try (cases e; done)
    split at e <;> try (cases e; done)
    split at e <;> cases e
    assumption
  · cases h
theorem ToldOk.nil (C : Cfg) : ToldOk C [] := by rintro f rows h; cases h
theorem ToldOk.add {C : Cfg} {f : Nat} {r : List AV × AV} (hr : RowOk C f r) {T : Told} (h : ToldOk C T) : ToldOk C ((f, [r]) :: T) := by
  intro g rows hm
  rcases List.mem_cons.1 hm with e | e
  · cases e
    intro x hx
    rcases List.mem_cons.1 hx with rfl | hx
    · exact hr
    · cases hx
  · exact h g rows e
theorem ToldOk.more {C : Cfg} {f : Nat} {r : List AV × AV} {rs : List (List AV × AV)} (hr : RowOk C f r) {T : Told} (h : ToldOk C ((f, rs) :: T)) : ToldOk C ((f, r :: rs) :: T) := by
  intro g rows hm
  rcases List.mem_cons.1 hm with e | e
  · cases e
    intro x hx
    rcases List.mem_cons.1 hx with rfl | hx
    · exact hr
    · exact h f rs (by simp) x hx
  · exact h g rows (by simp [e])
end Go.V
