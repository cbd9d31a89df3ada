/- A deferred call that does nothing. No condition. -/
import Derived.Test.YtjeiboididfgmaaGreatDoorYq
import Derived.Test.YtjeiboididfgmaaGreatDoorProg
import Derived.RecoverIn
set_option linter.unusedVariables false
set_option linter.unusedSimpArgs false
set_option maxRecDepth 100000
namespace Go.V
open Go Go.Proofs.Tryz

theorem dq_caught : DQ prog 67 := by
  refine ⟨by kernel_rfl, fun args w => ?_⟩
  refine callsDIn_of_wpSIn (fn := f67) (by kernel_rfl) rfl trivial fun c₀ cs hc => ?_
  have hrec : recoverD (c₀ :: cs) = none := by simp [recoverD, hc]
  refine wpSIn_seq ?_
  refine wpSIn_region ?_
  show wpOpsSIn wide 0 prog _ _ [0] _ _ _
  refine ⟨fun _ _ => trivial, ?_⟩
  rw [if_pos (by rfl)]
  show (match recoverD (c₀ :: cs) with
    | some (v, cs') => wpOpsSIn wide 0 prog _ _ [] _ cs' w
    | none => wpOpsSIn wide 0 prog _ _ [] _ (c₀ :: cs) w)
  rw [hrec]
  show Exit.thenS _ _ .normal _ _ _
  show Code.wpSIn wide 0 prog _ _ _ _ _
  refine wpSIn_of_wpIn rfl ?_
  show Code.wpIn wide 0 prog _ _ (({ tmps := args ++ Array.replicate (f67.ntmps - args.size) undef, defers := [] } : Act).put (some 7) .nilIface) w
  generalize ha : (({ tmps := args ++ Array.replicate (f67.ntmps - args.size) undef, defers := [] } : Act).put (some 7) .nilIface) = a
  have h7 : a.eval (.tmp 7) = .nilIface := by
    rw [← ha]
    have : 7 < (args ++ Array.replicate (f67.ntmps - args.size) undef).size := by
      have : f67.ntmps = 19 := rfl
      simp; omega
    simp only [Act.eval, Act.put, Array.getD_eq_getD_getElem?, Array.getElem?_setIfInBounds_self_of_lt this, Option.getD_some]
  have hd : a.defers = [] := by rw [← ha]; rfl
  refine wpIn_block (wpIn_seq (wpIn_region ?_))
  show wpOpsIn wide 0 prog _ _ [0] _ _
  rw [wpOpsIn_cons]
  refine ⟨fun _ _ => trivial, ?_⟩
  have hrun : (execOp a.eval ⟨some 9, .binOp .eql 20 (.tmp 7) (.const .nilIface) 20, 4, "scope.go:27", #[], none⟩).run prog w = .ok (.value (.bool true)) w := by
    have hc2 : a.eval (.const .nilIface) = .nilIface := rfl
    simp only [execOp, h7, hc2]
    rfl
  show Oper.uponIn wide 0 prog _ a _ _ ((execOp a.eval ⟨some 9, .binOp .eql 20 (.tmp 7) (.const .nilIface) 20, 4, "scope.go:27", #[], none⟩).run prog w)
  rw [hrun, Oper.uponIn_value]
  show wpOpsIn wide 0 prog _ _ [] (a.put (some 9) (.bool true)) w
  generalize hb : a.put (some 9) (.bool true) = b
  have h9 : b.eval (.tmp 9) = .bool true := by
    rw [← hb]
    have : 9 < a.tmps.size := by
      rw [← ha]
      have : f67.ntmps = 19 := rfl
      simp [Act.put]; omega
    simp only [Act.eval, Act.put, Array.getD_eq_getD_getElem?, Array.getElem?_setIfInBounds_self_of_lt this, Option.getD_some]
  have hdb : b.defers = [] := by rw [← hb]; exact hd
  show Code.wpIn wide 0 prog (Code.cond _ _ _) _ b w
  refine wpIn_cond (t := true) h9 ?_
  rw [if_pos rfl]
  refine wpIn_region ?_
  show wpOpsIn wide 0 prog _ _ [0] _ _
  rw [wpOpsIn_cons]
  refine ⟨fun _ _ => trivial, ?_⟩
  have hrun2 : (execOp b.eval ⟨some 4, .assign (.tmp 7), 20, "scope.go:27", #[], none⟩).run prog w = .ok (.value (b.eval (.tmp 7))) w := by
    simp only [execOp, Sem.run_bind, Sem.run_pure, Result.andThen]
  show Oper.uponIn wide 0 prog _ b _ _ ((execOp b.eval ⟨some 4, .assign (.tmp 7), 20, "scope.go:27", #[], none⟩).run prog w)
  rw [hrun2, Oper.uponIn_value]
  show (b.put (some 4) (b.eval (.tmp 7))).defers = [] ∧ _
  have hres : ∀ tm, (results f67 tm).run prog w = .ok (.tuple #[]) w := fun tm => by
    rw [results_eq, show f67.results = #[] from rfl]
    simp [Sem.run_bind, Sem.run_pure, Result.andThen]
  refine ⟨hdb, .returning, ?_, _, hres _, ⟨_, rfl⟩, rfl, rfl⟩
  obtain ⟨⟩ := c₀
  simp only at hc
  subst hc
  rfl
end Go.V
