/- Functions over abstract states: a call's contract out of its body; views of values; ranges over functions. No condition. -/
import Derived.Test.YtjeiboididfgmaaGreatDoorVe
set_option linter.unusedVariables false
set_option linter.unusedSimpArgs false
namespace Go.V
open Go

/-- The same value, seen otherwise, when objects are let go. -/
def View (G : GT) (H H1 : HM) (v v' : AV) : Prop := ∀ w u, St G H w → Rep (Imm H w) w v u → Rep (Imm H1 w) w v' u
def Drop (H H1 : HM) : Prop := ∀ b, H1 b = none ∨ H1 b = H b
theorem Drop.refl (H : HM) : Drop H H := fun _ => .inr rfl
theorem Drop.imm {H H1 : HM} (h : Drop H H1) {w : World} : ∀ b, Imm H w b → Imm H1 w b := fun b hb => ⟨hb.1, by rcases h b with e | e <;> simp [e, hb.2]⟩

section
variable {P : Program} {G : GT} {n : Nat} {r : Option Nat} {Q Q' : AX → AS → Prop} {s : AS} {H H1 : HM}

theorem View.of_drop (h : Drop H H1) (v : AV) : View G H H1 v v := fun w u _ hr => hr.keep h.imm fun _ _ => rfl
theorem View.refl (v : AV) : View G H H v v := View.of_drop (Drop.refl H) v
theorem View.nil0 (h : Drop H H1) : View G H H1 .nil0 (.list []) := fun w u _ hr => by cases hr; exact .nil _ _
/-- A row is done with: it is a list by value. -/
theorem View.row {b n cap t sz : Nat} {xs : List AV} (h : Drop H H1) (hb : H b = some (.row t sz cap xs)) (hb1 : H1 b = none) (hn : n = xs.length) (hl : xs.length ≤ lim) :
    View G H H1 (.mlist b n cap) (.list xs) := fun w u hst hr => by
  cases hr
  subst hn
  obtain ⟨vs, rest, e1, e2, e3, e4, e5, e6⟩ := hst.obj _ _ hb
  have hlt := (Array.getElem?_eq_some_iff.1 e1).1
  refine .list (ad := ⟨b, 0, none⟩) (fun _ => ⟨hlt, hb1⟩) rfl e3 (fun i v hi => ?_) e4 e6 hl (e2.keep h.imm fun _ _ => rfl)
  rw [add_plain, cell_block e1]
  have hi' := (List.getElem?_eq_some_iff.1 hi).1
  rw [List.getElem?_toArray, List.getElem?_append_left (by omega)]
  simpa using hi
/-- A variable of one's own is done with: a pointer to memory that nobody writes. -/
theorem View.cells {b off t : Nat} {cs : List AV} (h : Drop H H1) (hb : H b = some (.cells t cs)) (hb1 : H1 b = none) : View G H H1 (.addr b off) (.ref (cs.drop off)) := fun w u hst hr => by
  cases hr
  obtain ⟨vs, e1, e2, e3⟩ := hst.obj _ _ hb
  have hlt := (Array.getElem?_eq_some_iff.1 e1).1
  refine .ref (ad := ⟨b, off, none⟩) (vs := vs.drop off) (fun _ => ⟨hlt, hb1⟩) rfl (fun i v hi => ?_) (fun v hv => e3 v (List.mem_of_mem_drop hv)) ((e2.drop off).keep h.imm fun _ _ => rfl)
  rw [add_plain, cell_block e1]
  rw [List.getElem?_drop] at hi
  simpa using hi
/-- A map of one's own is done with. -/
theorem View.map {b : Nat} {es : List (AV × AV)} (h : Drop H H1) (hb : H b = some (.map es)) (hb1 : H1 b = none) : View G H H1 (.map b) (.imap es) := fun w u hst hr => by
  cases hr
  obtain ⟨ents, c, e1, e2, e3, e4⟩ := hst.obj _ _ hb
  have hlt := (Array.getElem?_eq_some_iff.1 e1).1
  exact .imap ⟨hlt, hb1⟩ e1 e4 (e2.keep h.imm fun _ _ => rfl) (e3.keep h.imm fun _ _ => rfl)

inductive ViewL (G : GT) (H H1 : HM) : List AV → List AV → Prop
  | nil : ViewL G H H1 [] []
  | cons {a b as bs} (h : View G H H1 a b) (hs : ViewL G H H1 as bs) : ViewL G H H1 (a :: as) (b :: bs)
theorem ViewL.rep {w : World} (hst : St G H w) : ∀ {as bs : List AV} {vs : List Value}, ViewL G H H1 as bs → RepL (Imm H w) w as vs → RepL (Imm H1 w) w bs vs
  | _, _, _, .nil, .nil => .nil
  | _, _, _, .cons h hs, .cons r rs => .cons (h _ _ hst r) (hs.rep hst rs)
theorem ViewL.of_drop (h : Drop H H1) : ∀ (as : List AV), ViewL G H H1 as as
  | [] => .nil
  | a :: as => .cons (View.of_drop h a) (ViewL.of_drop h as)
theorem View.agg {as bs : List AV} (h : ViewL G H H1 as bs) : View G H H1 (.agg as) (.agg bs) := fun w u hst hr => by
  cases hr with | agg h1 h2 => exact .agg h1 (h.rep hst h2)
theorem View.tup {as bs : List AV} (h : ViewL G H H1 as bs) : View G H H1 (.tup as) (.tup bs) := fun w u hst hr => by
  cases hr with | tup h2 => exact .tup (h.rep hst h2)
theorem View.ref {as bs : List AV} (hd : Drop H H1) (h : ViewL G H H1 as bs) : View G H H1 (.ref as) (.ref bs) := fun w u hst hr => by
  cases hr with | ref h1 h2 h3 h4 h5 => exact .ref (fun hn => hd.imm _ (h1 hn)) h2 h3 h4 (h.rep hst h5)
theorem ViewL.append : ∀ {as bs cs ds : List AV}, ViewL G H H1 as bs → ViewL G H H1 cs ds → ViewL G H H1 (as ++ cs) (bs ++ ds)
  | _, _, _, _, .nil, h => h
  | _, _, _, _, .cons h hs, h2 => .cons h (hs.append h2)
theorem View.cellsL {a b : AV} (hd : Drop H H1) (h : (∃ as bs, a = .agg as ∧ b = .agg bs ∧ ViewL G H H1 as bs) ∨ (a.cells = [a] ∧ b.cells = [b] ∧ View G H H1 a b)) : ViewL G H H1 a.cells b.cells := by
  rcases h with ⟨as, bs, rfl, rfl, h⟩ | ⟨h1, h2, h3⟩
  · exact h
  · rw [h1, h2]; exact .cons h3 .nil
/-- A list's elements seen otherwise. -/
theorem View.list {xs ys : List AV} (hd : Drop H H1) (hl : xs.length = ys.length) (hz : ∀ sz, (∀ x ∈ xs, x.cells.length = sz) → ∀ y ∈ ys, y.cells.length = sz) (h : ViewL G H H1 (flat xs) (flat ys)) : View G H H1 (.list xs) (.list ys) := fun w u hst hr => by
  generalize hq : AV.list xs = q at hr
  cases hr with
  | nil a cap =>
    injection hq with hq; subst hq
    have : ys = [] := List.eq_nil_of_length_eq_zero (by simpa using hl.symm)
    subst this; exact .nil _ _
  | list h1 h2 h3 h4 h5 h6 h7 h8 =>
    injection hq with hq; subst hq
    rw [hl]
    exact .list (fun hn => hd.imm _ (h1 hn)) h2 (hz _ h3) h4 h5 (by omega) (by omega) (h.rep hst h8)
  | _ => cases hq
theorem View.trans {H2 : HM} {a b c : AV} (hd : Drop H H1) (h : View G H H1 a b) (h' : View G H1 H2 b c) : View G H H2 a c := fun w u hst hr => h' w u (hst.drop hd) (h w u hst hr)

/-- A temporary seen otherwise; objects let go. -/
theorem VW_conv {c : Code} {s' : AS} (hH : Drop s.H s'.H) (ht : ∀ t, View G s.H s'.H (s.tmps t) (s'.tmps t)) (hd : s'.defs = s.defs) (h : VW P G n r c Q s') : VW P G n r c Q s := by
  refine VW_view (fun B a w hs => ?_) h
  have he : Evo s.H w s'.H w := (Evo.refl s.H w).drop hH
  exact ⟨⟨hs.size, fun t => ht t w _ hs.st (hs.tmp t), hs.st.drop hH, by rw [hd]; exact hs.defs.evo he, hs.big⟩, he⟩
theorem VW_see {c : Code} {i : Nat} {v' : AV} (hH : Drop s.H H1) (ht : View G s.H H1 (s.tmps i) v') (h : VW P G n r c Q ⟨upd s.tmps i v', H1, s.defs⟩) : VW P G n r c Q s := by
  refine VW_conv (s' := ⟨upd s.tmps i v', H1, s.defs⟩) hH (fun t => ?_) rfl h
  show View G s.H H1 (s.tmps t) (upd s.tmps i v' t)
  unfold upd
  split
  · rename_i e; subst e; exact ht
  · exact View.of_drop hH _

/-! ### Results -/
def vres (P : Program) (H : HM) (f : Nat → AV) : ResultVar → Option AV
  | .tmp t => some (f t)
  | .cell a t => match tiOf P t, cellsAt H (f a) with
    | some ti, some cs => ldv ti cs
    | _, _ => none
def vresL (P : Program) (H : HM) (f : Nat → AV) : List ResultVar → Option (List AV)
  | [] => some []
  | x :: xs => match vres P H f x, vresL P H f xs with
    | some v, some vs => some (v :: vs)
    | _, _ => none
def vresults (P : Program) (fn : Func) (H : HM) (f : Nat → AV) : Option AV :=
  match vresL P H f fn.results.toList with
  | some [] => some .unit
  | some [v] => some v
  | some vs => some (.tup vs)
  | none => none

theorem asAddr_some (a : Addr) : asAddr (.pointer (some a)) = pure a := rfl
def resStep (tmps : Array Value) : ResultVar → Sem Value
  | .tmp t => pure (tmps.getD t undef)
  | .cell a t => do loadVar t (← asAddr (tmps.getD a undef))
theorem results_eq (fn : Func) (tmps : Array Value) : results fn tmps = (do let vs ← fn.results.mapM (resStep tmps); pure (if h : vs.size = 1 then vs[0] else .tuple vs)) := rfl
theorem vresL_run {f : Nat → AV} {tmps : Array Value} {w : World} (hs : ∀ t, Rep (Imm H w) w (f t) (tmps.getD t undef)) (hst : St G H w) : ∀ (l : List ResultVar) (vs : List AV), vresL P H f l = some vs →
    ∃ us, (l.mapM (resStep tmps)).run P w = .ok us w ∧ RepL (Imm H w) w vs us
  | [], vs, h => by cases h; exact ⟨[], rfl, .nil⟩
  | x :: l, vs, h => by
    unfold vresL at h
    split at h
    · rename_i v vs' h1 h2
      cases h
      obtain ⟨us, e1, e2⟩ := vresL_run hs hst l vs' h2
      rw [List.mapM_cons]
      cases x with
      | tmp t =>
        cases h1
        exact ⟨tmps.getD t undef :: us, by simp only [resStep, Sem.run_bind, Sem.run_pure, Result.andThen, e1], .cons (hs t) e2⟩
      | cell b t =>
        simp only [vres] at h1
        split at h1
        · rename_i ti cs ht hc
          obtain ⟨ad, ws, f1, f2, f3, f4, f5⟩ := cellsAt_reads hc (hs b) hst
          obtain ⟨u, f6, f7⟩ := run_loadVar_ldv (w := w) ht h1 f3 f4 f5
          exact ⟨u :: us, by simp only [resStep, Sem.run_bind, Sem.run_pure, Result.andThen, f1, asAddr_some, f6, e1], .cons f7 e2⟩
        · cases h1
    · cases h

theorem vresults_run {f : Nat → AV} {tmps : Array Value} {w : World} {fn : Func} {v : AV} (hs : ∀ t, Rep (Imm H w) w (f t) (tmps.getD t undef)) (hst : St G H w) (h : vresults P fn H f = some v) : ∃ u, (results fn tmps).run P w = .ok u w ∧ Rep (Imm H w) w v u := by
  unfold vresults at h
  have key : ∀ vs, vresL P H f fn.results.toList = some vs → ∃ us : List Value, (results fn tmps).run P w = .ok (if h : us.toArray.size = 1 then us.toArray[0] else .tuple us.toArray) w ∧ RepL (Imm H w) w vs us := by
    intro vs hv
    obtain ⟨us, e1, e2⟩ := vresL_run hs hst _ _ hv
    refine ⟨us, ?_, e2⟩
    obtain ⟨l, hl⟩ : ∃ l : List ResultVar, fn.results = l.toArray := ⟨fn.results.toList, by simp⟩
    simp only [results_eq, hl, List.mapM_toArray, Sem.run_bind, Sem.run_map]
    rw [hl] at e1
    simp only [List.toList_toArray] at e1
    rw [e1]
    simp only [Result.andThen, Sem.run_pure]
  split at h
  · rename_i hv
    cases h
    obtain ⟨us, e1, e2⟩ := key _ hv
    cases e2
    exact ⟨_, e1, rep_undef _ _⟩
  · rename_i v' hv
    cases h
    obtain ⟨us, e1, e2⟩ := key _ hv
    cases e2 with
    | cons h1 h2 =>
      cases h2
      exact ⟨_, e1, h1⟩
  · rename_i vs h1 h2 hv
    cases h
    obtain ⟨us, e1, e2⟩ := key _ hv
    have hlen := e2.length
    have : us.toArray.size ≠ 1 := by
      intro e
      simp only [List.size_toArray] at e
      match vs, hlen with
      | [v], _ => exact h2 v rfl
      | [], h => simp at h; omega
      | _ :: _ :: _, h => simp at h; omega
    rw [dif_neg this] at e1
    exact ⟨_, e1, .tup e2⟩
  · cases h

/-! ### A call's contract out of its body -/
def marksOnly (ds : List ADef) : Prop := ∀ d ∈ ds, ∃ b, d = .mark b

/-- A block for deferred calls is shut. -/
theorem shut_rep {w : World} {b : Nat} {x : Option (List Deferred)} (hb : w.heap[b]? = some (.deferred x)) {a : AV} {v : Value} (h : Rep (Imm H w) w a v) : Rep (Imm H (w.putObj b (.deferred none))) (w.putObj b (.deferred none)) a v := by
  refine h.keep2 (fun k hk _ => ⟨by simpa using hk.1, hk.2⟩) (fun a v _ hc => ?_) (fun k es c _ hm => ?_)
  · have : a.block ≠ b := by
      intro e
      simp only [World.cell?, e, hb] at hc
      cases hc
    unfold World.cell? at *
    rw [World.putObj_heap_other this]; exact hc
  · have : k ≠ b := by rintro rfl; rw [hb] at hm; cases hm
    rw [World.putObj_heap_other this]; exact hm
theorem shut_st {w : World} {b : Nat} {x : Option (List Deferred)} (hb : w.heap[b]? = some (.deferred x)) (h : St G H w) : St G H (w.putObj b (.deferred none)) := by
  have keepL : ∀ {as : List AV} {vs : List Value}, RepL (Imm H w) w as vs → RepL (Imm H (w.putObj b (.deferred none))) (w.putObj b (.deferred none)) as vs := by
    intro as vs hr
    refine hr.keep2 (fun k hk _ => ⟨by simpa using hk.1, hk.2⟩) (fun a v _ hc => ?_) (fun k es c _ hm => ?_)
    · have : a.block ≠ b := by
        intro e
        simp only [World.cell?, e, hb] at hc
        cases hc
      unfold World.cell? at *
      rw [World.putObj_heap_other this]; exact hc
    · have : k ≠ b := by rintro rfl; rw [hb] at hm; cases hm
      rw [World.putObj_heap_other this]; exact hm
  refine ⟨fun k o e => ?_, fun g cs e => (h.glob g cs e).map (fun hi _ => ⟨by simpa using hi.1, hi.2⟩) (fun _ hd => World.putObj_heap_other (by rintro rfl; simp [isData, hb] at hd)) keepL⟩
  have ho := h.obj k o e
  have hne : k ≠ b := by
    rintro rfl
    cases o <;> simp only [RepO] at ho
    · obtain ⟨_, h1, _⟩ := ho; rw [hb] at h1; cases h1
    · obtain ⟨_, _, h1, _⟩ := ho; rw [hb] at h1; cases h1
    · obtain ⟨_, _, h1, _⟩ := ho; rw [hb] at h1; cases h1
    · rw [hb] at ho; cases ho.1
    · rw [hb] at ho; cases ho
    · obtain ⟨_, _, _, _, h1, _⟩ := ho; rw [hb] at h1; cases h1
  have hk := World.putObj_heap_other (w := w) (o := .deferred none) hne
  cases o <;> simp only [RepO] at ho ⊢ <;> rw [hk]
  · obtain ⟨vs, h1, h2, h3⟩ := ho; exact ⟨vs, h1, keepL h2, h3⟩
  · obtain ⟨vs, rest, h1, h2, h3⟩ := ho; exact ⟨vs, rest, h1, keepL h2, h3⟩
  · obtain ⟨es, c, h1, h2, h3, h4⟩ := ho; exact ⟨es, c, h1, keepL h2, keepL h3, h4⟩
  · exact ⟨ho.1, fun t => shut_rep hb (ho.2 t)⟩
  · exact ho
  · obtain ⟨m, si, sb, la, h1, h2⟩ := ho
    refine ⟨m, si, sb, la, h1, h2.imp id ?_⟩
    rintro ⟨r, ents, e1, e2, e3, e4, e5, e6, e7, e8⟩
    have hrb : r ≠ b := by rintro rfl; rw [hb] at e3; cases e3
    exact ⟨r, ents, e1, ⟨by simpa using e2.1, e2.2⟩, (World.putObj_heap_other hrb).trans e3, e4, e5, keepL e6, keepL e7, e8⟩
theorem shut_evo {H0 : HM} {w0 w : World} {b : Nat} (hB : w0.heap.size ≤ b) (he : Evo H0 w0 H w) : Evo H0 w0 H (w.putObj b (.deferred none)) :=
  ⟨he.os, he.tape, he.output, by simpa using he.size, fun k hk => ⟨(he.block k hk).1, by
    have : k ≠ b := by have := hk.1; omega
    rw [World.putObj_heap_other this]; exact (he.block k hk).2⟩⟩

theorem RepDs.shut {B b : Nat} {w : World} (hb : w.heap[b]? = some (.deferred (some []))) : ∀ {as : List ADef} {ds : List Deferred}, marksOnly as → .mark b ∉ as → RepDs B H w as ds → RepDs B H (w.putObj b (.deferred none)) as ds
  | _, _, _, _, .nil => .nil
  | a :: as, _, hm, hn, .cons h0 h hs => by
    obtain ⟨b', rfl⟩ := hm a (by simp)
    obtain ⟨e1, e2, e3⟩ := h
    have hne : b' ≠ b := by rintro rfl; exact hn (by simp)
    exact .cons h0 ⟨e1, by rw [World.putObj_heap_other hne]; exact e2, e3⟩ (hs.shut hb (fun d hd => hm d (by simp [hd])) fun h => hn (by simp [h]))

theorem leave_marks {fn : Func} {f : Nat → AV} {tmps : Array Value} {H0 : HM} {w0 : World} {v : AV} {R : Ending → World → Prop} (hv : vresults P fn H f = some v)
    (hR : ∀ u w, Rep (Imm H w) w v u → St G H w → Evo H0 w0 H w → R (.returned u) w) : ∀ (as : List ADef) (ds : List Deferred) (w : World), marksOnly as → RepDs w0.heap.size H w as ds →
      (∀ t, Rep (Imm H w) w (f t) (tmps.getD t undef)) → St G H w → Evo H0 w0 H w → LeavesInM wide 0 P fn tmps R ds .returning w
  | [], _, w, _, .nil, h1, h2, h3 => by
    obtain ⟨u, e1, e2⟩ := vresults_run h1 h2 hv
    exact ⟨u, e1, hR u w e2 h2 h3⟩
  | a :: as, d :: ds, w, hm, .cons h0 h hs, h1, h2, h3 => by
    obtain ⟨b, rfl⟩ := hm a (by simp)
    obtain ⟨e1, e2, e3, e4⟩ := h
    refine ⟨by simp, .inl ⟨b, _, by rw [e1], run_takeDeferred e2, ?_⟩⟩
    exact leave_marks hv hR as ds _ (fun d hd => hm d (by simp [hd])) (hs.shut e2 (fun d hd => hm d (by simp [hd])) (h0 b rfl)) (fun t => shut_rep e2 (h1 t)) (shut_st e2 h2) (shut_evo e4 h3)

theorem leave_marks_pan {fn : Func} {tmps : Array Value} {H0 : HM} {w0 : World} {v : AV} {u : Value} {R : Ending → World → Prop}
    (hR : ∀ w, Rep (Imm H w) w v u → St G H w → Evo H0 w0 H w → R (.panicked [{ v := u, recovered := false }]) w) : ∀ (as : List ADef) (ds : List Deferred) (w : World), marksOnly as → RepDs w0.heap.size H w as ds →
      Rep (Imm H w) w v u → St G H w → Evo H0 w0 H w → LeavesInM wide 0 P fn tmps R ds (.panicking [{ v := u, recovered := false }]) w
  | [], _, w, _, .nil, h1, h2, h3 => hR w h1 h2 h3
  | a :: as, d :: ds, w, hm, .cons h0 h hs, h1, h2, h3 => by
    obtain ⟨b, rfl⟩ := hm a (by simp)
    obtain ⟨e1, e2, e3, e4⟩ := h
    refine ⟨by simp, .inl ⟨b, _, by rw [e1], run_takeDeferred e2, ?_⟩⟩
    exact leave_marks_pan hR as ds _ (fun d hd => hm d (by simp [hd])) (hs.shut e2 (fun d hd => hm d (by simp [hd])) (h0 b rfl)) (shut_rep e2 h1) (shut_st e2 h2) (shut_evo e4 h3)

/-- At a function's end: its results, objects let go. -/
def FinR (P : Program) (G : GT) (fn : Func) (K : ARes → HM → Prop) (s : AS) : Prop :=
  marksOnly s.defs ∧ ∃ v v' H1, vresults P fn s.H s.tmps = some v ∧ Drop s.H H1 ∧ View G s.H H1 v v' ∧ K (.ret v') H1
def FinP (G : GT) (K : ARes → HM → Prop) (v : AV) (s : AS) : Prop :=
  marksOnly s.defs ∧ ∃ v' H1, Drop s.H H1 ∧ View G s.H H1 v v' ∧ K (.pan v') H1
def Fin (P : Program) (G : GT) (fn : Func) (K : ARes → HM → Prop) : AX → AS → Prop
  | .normal, s | .ret, s => FinR P G fn K s
  | .pan v, s => FinP G K v s
  | _, _ => False

/-- **A function's contract out of its body.** -/
theorem CallF_intro {f : FuncId} {fn : Func} {c : Code} {args : List AV} {K : ARes → HM → Prop} (hf : P.funcs[f]? = some fn) (hb : fn.body = some c) (hc : cok fn.ntmps c = true) (hn : args.length ≤ fn.ntmps)
    (h : VW P G fn.ntmps none c (Fin P G fn K) ⟨fun i => args.getD i .unit, H, []⟩) : CallF P G f args H K := by
  intro w vs hr hst
  refine callsIn_of_wp_marks (F := wide) hf hb trivial ?_ rfl
  have hlen := hr.length
  have hs : Sim G fn.ntmps w.heap.size ⟨fun i => args.getD i .unit, H, []⟩ { tmps := vs.toArray ++ Array.replicate (fn.ntmps - vs.toArray.size) undef, defers := [] } w := by
    refine ⟨by simp; omega, fun t => ?_, hst, .nil, Nat.le_refl _⟩
    by_cases ht : t < args.length
    · obtain ⟨v, e1, e2⟩ := hr.get t _ (List.getElem?_eq_getElem ht)
      have : (vs.toArray ++ Array.replicate (fn.ntmps - vs.toArray.size) undef).getD t undef = v := by
        rw [Array.getD_eq_getD_getElem?, Array.getElem?_append_left (by simp; omega)]
        simp [e1]
      simp only [this, List.getD_eq_getElem?_getD, List.getElem?_eq_getElem ht, Option.getD_some]
      exact e2
    · have : (vs.toArray ++ Array.replicate (fn.ntmps - vs.toArray.size) undef).getD t undef = undef := by
        rw [Array.getD_eq_getD_getElem?, Array.getElem?_append_right (by simp; omega)]
        rw [Array.getElem?_replicate]; split <;> rfl
      simp only [this, List.getD_eq_getElem?_getD, List.getElem?_eq_none (Nat.le_of_not_lt ht), Option.getD_none]
      exact rep_undef _ _
  refine wpIn_mono (h hc _ _ w hs) ?_
  rintro e a' w' ⟨x, s', q, hx, hs', he⟩
  have fin : FinR P G fn K s' → LeavesInM wide 0 P fn a'.tmps (fun | .returned v, w'' => Out G H w (fun a => K (.ret a)) v w'' | .panicked chain, w'' => ∃ v, chain = [{ v, recovered := false }] ∧ Out G H w (fun a => K (.pan a)) v w'' | .outgrown, _ => False) a'.defers .returning w' := by
    rintro ⟨hm, v, v', H1, hv, hd, hview, hk⟩
    refine leave_marks hv (fun u w'' r1 r2 r3 => ?_) s'.defs a'.defers w' hm hs'.defs hs'.tmp hs'.st he
    exact ⟨v', H1, hk, hview w'' u r2 r1, r2.drop hd, r3.drop hd⟩
  cases x with
  | normal => cases e <;> first | exact fin q | exact hx.elim
  | ret => cases e <;> first | exact fin q | exact hx.elim
  | pan v =>
    cases e with
    | panic chain =>
      obtain ⟨u, rfl, hu⟩ := hx
      obtain ⟨hm, v', H1, hd, hview, hk⟩ := q
      refine leave_marks_pan (v := v) (fun w'' r1 r2 r3 => ?_) s'.defs a'.defers w' hm hs'.defs hu hs'.st he
      exact ⟨u, rfl, v', H1, hk, hview w'' u r2 r1, r2.drop hd, r3.drop hd⟩
    | _ => exact hx.elim
  | _ => exact q.elim
end
end Go.V
