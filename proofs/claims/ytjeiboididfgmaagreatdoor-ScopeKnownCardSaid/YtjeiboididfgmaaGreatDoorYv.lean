/- slices.Clone. No condition. -/
import Derived.Test.YtjeiboididfgmaaGreatDoorYu
import Derived.Test.YtjeiboididfgmaaGreatDoorYi
set_option linter.unusedVariables false
set_option linter.unusedSimpArgs false
set_option linter.defProp false
set_option maxRecDepth 100000
namespace Go.V
open Go Go.Proofs.Tryz

section
variable {P : Program} {G : GT} {n : Nat} {Q : AX → AS → Prop} {H : HM}
theorem src_slice {I : Nat → Prop} {w : World} {x : AV} {v : Value} {ys : List AV} (hs : srcOf H x = some ys) (hr : Rep I w x v) : ∃ ad l c, v = .slice ad l c ∧ (ad = none → ys = []) := by
  cases x <;> simp only [srcOf] at hs <;> try (cases hs; done)
  · cases hs
    cases hr with
    | nil a cap => exact ⟨_, _, _, rfl, fun _ => rfl⟩
    | list => exact ⟨_, _, _, rfl, fun e => by cases e⟩
  · cases hs
    cases hr with
    | nil0 a => exact ⟨_, _, _, rfl, fun _ => rfl⟩
  · cases hr with
    | mlist => exact ⟨_, _, _, rfl, fun e => by cases e⟩
theorem equalIn_slice {t e : TypeId} {w : World} (h : P.underlying t = some (.slice e)) (d : Nat) (a : Option Addr) (l c : Nat) : (Op.equalIn (d + 1) t (.slice a l c) (.slice none 0 0)).run P w = .ok a.isNone w := by
  cases a <;> simp only [Op.equalIn, Sem.run_bind, run_underlying' h, Result.andThen, Sem.run_pure, Option.isNone_none, Option.isNone_some]
theorem VW_isnil {id t t2 t3 t4 : Nat} {p1 p2 : String} {af : Array Edge} {y : Code} {x : AV} {ys : List AV} {tm : Nat → AV} {ds : List ADef} {e sz : Nat} (hT : tdAt P t2 = some (.slice e sz)) (h3 : 3 < n) (h4 : 4 < n) (hx : tm 0 = x) (hsr : srcOf H x = some ys)
    (h : ∀ b : Bool, (b = true → ys = []) → VW P G n none y Q ⟨upd (upd tm 3 x) 4 (.bool b), H, ds⟩) :
    VW P G n none (.seq (.region id #[⟨some 3, .move (.tmp 0), t, p1, #[], none⟩, ⟨some 4, .binOp .eql t2 (.tmp 3) (.const (.slice none 0 0)) t3, t4, p2, af, none⟩] false) y) Q ⟨tm, H, ds⟩ := by
  intro hc B a w hs
  simp only [cok, Bool.and_eq_true] at hc
  refine wpIn_seq (wpIn_region ?_)
  show wpOpsIn (W none) 0 P _ _ [0, 1] _ _
  rw [wpOpsIn_cons]
  refine ⟨fun _ _ => trivial, ?_⟩
  have hrep : Rep (Imm H w) w x (a.eval (.tmp 0)) := by rw [← hx]; exact hs.tmp 0
  obtain ⟨ad, l, c, hv, had⟩ := src_slice hsr hrep
  have hrun : (execOp a.eval ⟨some 3, .move (.tmp 0), t, p1, #[], none⟩).run P w = .ok (.value (a.eval (.tmp 0))) w := by
    simp only [execOp, Sem.run_bind, Sem.run_pure, Result.andThen]
  show Oper.uponIn (W none) 0 P _ a _ _ ((execOp a.eval ⟨some 3, .move (.tmp 0), t, p1, #[], none⟩).run P w)
  rw [hrun, Oper.uponIn_value]
  have hs1 : Sim G n B ⟨upd tm 3 x, H, ds⟩ (a.put (some 3) (a.eval (.tmp 0))) w := hs.put (d := some 3) (Evo.refl _ _) hs.st hrep (fun i e => by cases e; exact h3)
  generalize ha : a.put (some 3) (a.eval (.tmp 0)) = a1 at hs1
  have he3 : a1.eval (.tmp 3) = .slice ad l c := by
    rw [← ha, hv]
    have : 3 < a.tmps.size := by rw [hs.size]; exact h3
    simp only [Act.eval, Act.put, Array.getD_eq_getD_getElem?, Array.getElem?_setIfInBounds_self_of_lt this, Option.getD_some]
  show wpOpsIn (W none) 0 P _ _ [1] _ _
  rw [wpOpsIn_cons]
  refine ⟨fun _ _ => trivial, ?_⟩
  have hrun2 : (execOp a1.eval ⟨some 4, .binOp .eql t2 (.tmp 3) (.const (.slice none 0 0)) t3, t4, p2, af, none⟩).run P w = .ok (.value (.bool ad.isNone)) w := by
    have hc2 : a1.eval (.const (.slice none 0 0)) = .slice none 0 0 := rfl
    simp only [execOp, he3, hc2, Sem.run_bind, run_eqGuard (show Value.slice ad l c ≠ .nilIface by simp) (show ∀ cs, Value.slice ad l c ≠ .agg cs by simp), Result.andThen, binOp, Op.equal, Op.maxDepth, equalIn_slice (slice_info (w := w) hT).1 9999, Sem.run_pure]
  have ha' : a.put (#[⟨some 3, .move (.tmp 0), t, p1, #[], none⟩, ⟨some 4, .binOp .eql t2 (.tmp 3) (.const (.slice none 0 0)) t3, t4, p2, af, none⟩][0] : Oper).dst (a.eval (.tmp 0)) = a1 := ha
  rw [ha']
  show Oper.uponIn (W none) 0 P _ a1 _ _ ((execOp a1.eval ⟨some 4, .binOp .eql t2 (.tmp 3) (.const (.slice none 0 0)) t3, t4, p2, af, none⟩).run P w)
  rw [hrun2, Oper.uponIn_value]
  have hs2 : Sim G n B ⟨upd (upd tm 3 x) 4 (.bool ad.isNone), H, ds⟩ (a1.put (some 4) (.bool ad.isNone)) w := hs1.put (d := some 4) (Evo.refl _ _) hs.st (.val _ trivial) (fun i e => by cases e; exact h4)
  exact h ad.isNone (fun e => had (Option.isNone_iff_eq_none.1 e)) hc.2 B _ w hs2

/-- The text of slices.Clone. -/
def cloneCode (T : Nat) : Code :=
  .seq (.region 0 #[⟨some 2, .assign (.const (.slice none 0 0)), T, "slices.go:355", #[], none⟩] false)
    (.seq (.seq (.region 1 #[⟨some 3, .move (.tmp 0), T, "slices.go:357", #[], none⟩, ⟨some 4, .binOp .eql T (.tmp 3) (.const (.slice none 0 0)) T, 4, "slices.go:357", #[⟨0, .data⟩], none⟩] false)
        (.cond (.tmp 4) (.seq (.region 2 #[⟨some 2, .assign (.const (.slice none 0 0)), T, "slices.go:358", #[], none⟩] false) .ret) .skip))
      (.seq (.region 3 #[⟨some 5, .buildSlice T 0 #[], T, "slices.go:362", #[], none⟩, ⟨some 6, .move (.tmp 0), T, "slices.go:362", #[], none⟩,
          ⟨some 7, .call ⟨.builtin .append, #[.tmp 5, .tmp 6], #[T, T]⟩, T, "slices.go:362", #[⟨0, .data⟩, ⟨1, .data⟩], none⟩,
          ⟨some 2, .assign (.tmp 7), T, "slices.go:362", #[⟨2, .data⟩, ⟨2, .chain⟩, ⟨0, .phase⟩, ⟨1, .phase⟩, ⟨2, .phase⟩], none⟩] false) .ret))
theorem clone_c {f : FuncId} {fn : Func} {T e sz : Nat} {ei : TI} (hf : P.funcs[f]? = some fn) (hb : fn.body = some (cloneCode T)) (hp : Plain P f = true) (hn : fn.ntmps = 8) (hres : fn.results = #[.tmp 2]) (hT : tdAt P T = some (.slice e sz))
    (hei : tiOf P e = some ei) (hby : ei.bytes ≤ 1024) {x : AV} {ys : List AV} {K : ARes → HM → Prop} (hs : srcOf H x = some ys) (hsz : ∀ y ∈ ys, y.cells.length = sz) (hl : ys.length ≤ lim) (hk1 : ys = [] → K (.ret .nil0) H)
    (hk2 : ys ≠ [] → ∀ b cap, H b = none → K (.ret (.mlist b ys.length cap)) (H.upd b (.row e sz cap ys))) : Plain P f = true ∧ CallF P G f [x] H K := by
  refine ⟨hp, CallF_body hf hb (by rw [hn]; kernel_rfl) (by rw [hn]; simp) ?_⟩
  rw [hn]
  unfold cloneCode
  first | refine VW_reg [] fun N E hN hE => ?_ | (refine VW_seq ?_; refine VW_reg [] fun N E hN hE => ?_) | (refine VW_seq ?_; refine VW_seq ?_; refine VW_reg [] fun N E hN hE => ?_) | (refine VW_seq ?_; refine VW_seq ?_; refine VW_seq ?_; refine VW_reg [] fun N E hN hE => ?_) | refine VW_regE [] fun N E hN hE => ?_ | (refine VW_seq ?_; refine VW_regE [] fun N E hN hE => ?_)
  simp (decide := true) only [VS, WS, TS, ES, ↓reduceIte, Nat.reduceAdd]
  refine hN _ ?_
  clear hN hE N E
  refine VW_seq ?_
  refine VW_isnil hT (by decide) (by decide) (show _ = x from by simp (decide := true) only [upd_eq, putT_some, WS, ES, ↓reduceIte, Nat.reduceAdd]) hs fun b hb => ?_
  first | refine VW_if rfl (fun hc => ?_) (fun hc => ?_) | refine VW_seq (VW_if rfl (fun hc => ?_) (fun hc => ?_))
  · first | refine VW_reg [] fun N E hN hE => ?_ | (refine VW_seq ?_; refine VW_reg [] fun N E hN hE => ?_) | (refine VW_seq ?_; refine VW_seq ?_; refine VW_reg [] fun N E hN hE => ?_) | (refine VW_seq ?_; refine VW_seq ?_; refine VW_seq ?_; refine VW_reg [] fun N E hN hE => ?_) | refine VW_regE [] fun N E hN hE => ?_ | (refine VW_seq ?_; refine VW_regE [] fun N E hN hE => ?_)
    simp (decide := true) only [VS, WS, TS, ES, ↓reduceIte, Nat.reduceAdd]
    refine hN _ ?_
    clear hN hE N E
    refine VW_ret ⟨fun d hd => (by cases hd), .nil0, _, H, ?_, Drop.refl _, View.refl _, hk1 (hb (by simpa using hc))⟩
    rw [vresults_one 2 hres]; simp (decide := true) only [upd_eq, putT_some, WS, ES, ↓reduceIte, Nat.reduceAdd]
  · refine VW_skip ?_
    refine VW_seq (VW_region ?_)
    have hb5 : ∀ {ops : Array Oper} {K' : AS → Prop} {Q' : AX → AS → Prop} {s : AS} {o : Oper}, o.guard = none → VX P G (s.eval G) s.H o (fun | .ret v, H' => K' (s.put o.dst v H') | .pan v, H' => Q' (.pan v) { s with H := H' }) → VOp P G ops Q' o K' s := by
      intro ops K' Q' s o hg h
      unfold VOp wantA
      rw [hg]
      exact h
    refine hb5 rfl (vx_sound (M := []) ?_)
    unfold vx
    simp only [hT, if_true]
    refine ⟨trivial, ?_⟩
    refine hb5 rfl (vx_sound (M := []) ?_)
    show VOps _ _ _ _ _ _
    have hsrc : ∀ {s : AS}, s.H = H → s.tmps 6 = x → srcOf s.H (s.eval G (.tmp 6)) = some ys := fun h1 h2 => by
      show srcOf _ (AS.tmps _ 6) = _
      rw [h1, h2]; exact hs
    have fin : ∀ v H' tm, (K (.ret v) H') → VOps P G #[⟨some 5, .buildSlice T 0 #[], T, "slices.go:362", #[], none⟩, ⟨some 6, .move (.tmp 0), T, "slices.go:362", #[], none⟩,
          ⟨some 7, .call ⟨.builtin .append, #[.tmp 5, .tmp 6], #[T, T]⟩, T, "slices.go:362", #[⟨0, .data⟩, ⟨1, .data⟩], none⟩,
          ⟨some 2, .assign (.tmp 7), T, "slices.go:362", #[⟨2, .data⟩, ⟨2, .chain⟩, ⟨0, .phase⟩, ⟨1, .phase⟩, ⟨2, .phase⟩], none⟩]
        (AX.then (fun s' => VW P G 8 none .ret (Fin P G fn K) s') (Fin P G fn K)) [⟨some 2, .assign (.tmp 7), T, "slices.go:362", #[⟨2, .data⟩, ⟨2, .chain⟩, ⟨0, .phase⟩, ⟨1, .phase⟩, ⟨2, .phase⟩], none⟩] ⟨upd tm 7 v, H', []⟩ := by
      intro v H' tm hk
      refine hb5 rfl (vx_sound (M := []) ?_)
      show VW _ _ _ _ _ _ _
      refine VW_ret ⟨fun d hd => (by cases hd), v, v, H', ?_, Drop.refl _, View.refl _, hk⟩
      rw [vresults_one 2 hres]; rfl
    cases hys : ys with
    | nil =>
      rw [hys] at hk1
      refine hb5 rfl (VX_app0 rfl hT (by rw [hT]; rfl) hei hby rfl (by rw [hsrc rfl rfl, hys]) ?_)
      exact fin _ _ _ (hk1 rfl)
    | cons y0 ys0 =>
      refine hb5 rfl (vx_sound (M := []) ?_)
      unfold vx
      simp only [isImm, List.contains_nil, Bool.false_eq_true, if_false]
      show vappend P H T T .nil0 x _
      unfold vappend
      rw [hT]
      refine ⟨trivial, ?_⟩
      rw [hei, hs]
      refine ⟨hby, hsz, hl, fun e => (by rw [hys] at e; cases e), fun b cap hb _ => ?_⟩
      exact fin _ _ _ (hk2 (by rw [hys]; simp) b cap hb)
end
end Go.V
