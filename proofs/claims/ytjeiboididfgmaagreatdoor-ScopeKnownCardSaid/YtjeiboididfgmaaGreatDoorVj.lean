/- Ranges over functions. No condition. -/
import Derived.Test.YtjeiboididfgmaaGreatDoorVi
import Derived.RangeFuncIn
set_option linter.unusedVariables false
set_option linter.unusedSimpArgs false
namespace Go.V
open Go

/-- A function value of an iterator: called with a yield it yields the items xs in order, until it is told to stop. -/
def Iter (P : Program) (G : GT) (gf : FuncId) (first cap : List AV) (xs : List (List AV)) : Prop :=
  Plain P gf = true ∧ ∀ (l : Nat) (I : Nat → HM → Prop) (S : HM → Prop) (H : HM), I 0 H →
    (∀ i x H', xs[i]? = some x → I i H' → CallV P G (.func (.yield l) [] []) x H' fun r H'' => (r = .ret (.bool true) ∧ I (i + 1) H'') ∨ (r = .ret (.bool false) ∧ S H'')) →
    CallF P G gf (first ++ [.func (.yield l) [] []] ++ cap) H fun r H' => r = .ret .unit ∧ (I xs.length H' ∨ S H')

/-- The same, its items in an open order: Nx says which item may come behind some, Dn when they may end. -/
def IterH (P : Program) (G : GT) (gf : FuncId) (first cap : List AV) (Nx : List (List AV) → List AV → Prop) (Dn : List (List AV) → Prop) : Prop :=
  Plain P gf = true ∧ ∀ (l : Nat) (I : List (List AV) → HM → Prop) (S : HM → Prop) (H : HM), I [] H →
    (∀ hs x H', Nx hs x → I hs H' → CallV P G (.func (.yield l) [] []) x H' fun r H'' => (r = .ret (.bool true) ∧ I (hs ++ [x]) H'') ∨ (r = .ret (.bool false) ∧ S H'')) →
    CallF P G gf (first ++ [.func (.yield l) [] []] ++ cap) H fun r H' => r = .ret .unit ∧ ((∃ hs, Dn hs ∧ I hs H') ∨ S H')

def setPs (ps : List Nat) (xs : List AV) (tm : Nat → AV) : Nat → AV := (ps.zip xs).foldl (fun t p => upd t p.1 p.2) tm

section
variable {P : Program} {G : GT} {n B : Nat} {Q : AX → AS → Prop} {H H' : HM} {w w' : World}

theorem put_other {b k : Nat} {o : Obj} (h : k ≠ b) : (w.putObj b o).heap[k]? = w.heap[k]? := World.putObj_heap_other h
theorem nd_cell {b : Nat} {o : Obj} (hb : isData w b = false) {a : Addr} {v : Value} (hc : w.cell? a = some v) : (w.putObj b o).cell? a = some v := by
  have : a.block ≠ b := by
    intro e
    have := data_of_cell hc
    rw [e, hb] at this; cases this
  unfold World.cell? at *
  rw [put_other this]; exact hc
theorem nd_map {b k : Nat} {o : Obj} (hb : isData w b = false) {es : Array MapEntry} {c : Nat} (hm : w.heap[k]? = some (.map es c)) : (w.putObj b o).heap[k]? = some (.map es c) := by
  have : k ≠ b := by
    rintro rfl
    simp [isData, hm] at hb
  rw [put_other this]; exact hm
/-- A block that holds no data is written. -/
theorem nd_rep {b : Nat} {o : Obj} (hb : isData w b = false) {a : AV} {v : Value} (h : Rep (Imm H w) w a v) : Rep (Imm H (w.putObj b o)) (w.putObj b o) a v :=
  h.keep2 (fun k hk _ => ⟨by simpa using hk.1, hk.2⟩) (fun _ _ _ hc => nd_cell hb hc) (fun _ _ _ _ hm => nd_map hb hm)
theorem nd_repL {b : Nat} {o : Obj} (hb : isData w b = false) {a : List AV} {v : List Value} (h : RepL (Imm H w) w a v) : RepL (Imm H (w.putObj b o)) (w.putObj b o) a v :=
  h.keep2 (fun k hk _ => ⟨by simpa using hk.1, hk.2⟩) (fun _ _ _ hc => nd_cell hb hc) (fun _ _ _ _ hm => nd_map hb hm)
theorem RepO.keep2 {I I' : Nat → Prop} {b : Nat} {o : AObj} (h : RepO I w b o) (hI : ∀ b, I b → isData w b = true → I' b) (hc : ∀ a v, I a.block → w.cell? a = some v → w'.cell? a = some v)
    (hm : ∀ b es c, I b → w.heap[b]? = some (.map es c) → w'.heap[b]? = some (.map es c)) (hs : w'.heap[b]? = w.heap[b]?) : RepO I' w' b o := by
  cases o <;> simp only [RepO] at h ⊢ <;> rw [hs]
  · obtain ⟨vs, h1, h2, h3⟩ := h; exact ⟨vs, h1, h2.keep2 hI hc hm, h3⟩
  · obtain ⟨vs, rest, h1, h2, h3⟩ := h; exact ⟨vs, rest, h1, h2.keep2 hI hc hm, h3⟩
  · obtain ⟨es, c, h1, h2, h3, h4⟩ := h; exact ⟨es, c, h1, h2.keep2 hI hc hm, h3.keep2 hI hc hm, h4⟩
  · exact ⟨h.1, fun t => (h.2 t).keep2 hI hc hm⟩
  · exact h
  · obtain ⟨m, si, sb, la, h1, h2⟩ := h
    refine ⟨m, si, sb, la, h1, h2.imp id ?_⟩
    rintro ⟨r, ents, e1, e2, e3, e4, e5, e6, e7, e8⟩
    exact ⟨r, ents, e1, hI _ e2 (by simp [isData, e3]), hm _ _ _ e2 e3, e4, e5, e6.keep2 hI hc hm, e7.keep2 hI hc hm, e8⟩
theorem nd_st {b : Nat} {o : Obj} (hb : isData w b = false) (hn : H b = none) (h : St G H w) : St G H (w.putObj b o) := by
  refine ⟨fun k ob e => ?_, fun g cs e => (h.glob g cs e).map (fun hi _ => ⟨by simpa using hi.1, hi.2⟩) (fun _ hd => put_other (by rintro rfl; rw [hb] at hd; cases hd)) fun hr => nd_repL hb hr⟩
  have : k ≠ b := by rintro rfl; rw [hn] at e; cases e
  exact (h.obj k ob e).keep2 (fun k hk _ => ⟨by simpa using hk.1, hk.2⟩) (fun _ _ _ hc => nd_cell hb hc) (fun _ _ _ _ hm => nd_map hb hm) (put_other this)
theorem loop_nd {b : Nat} {r : Loop} (h : w.heap[b]? = some (.loop r)) : isData w b = false := by simp [isData, h]

theorem RepDs.lt {b : Nat} : ∀ {as : List ADef} {ds : List Deferred}, RepDs B H w as ds → .mark b ∈ as → b < w.heap.size
  | _, _, .cons _ h hs, hm => by
    rcases List.mem_cons.1 hm with e | e
    · subst e; exact (Array.getElem?_eq_some_iff.1 h.2.1).1
    · exact hs.lt e

theorem HM.del_upd {b : Nat} (o : AObj) (h : H b = none) : (H.upd b o).del b = H := by
  funext k; simp only [HM.del, HM.upd]; split
  · rename_i e; rw [e, h]
  · rfl
theorem HM.upd_del {b : Nat} {o : AObj} (h : H b = some o) : (H.del b).upd b o = H := by
  funext k; simp only [HM.del, HM.upd]; split
  · rename_i e; rw [e, h]
  · rfl
theorem drop_del (b : Nat) : Drop H (H.del b) := fun k => by
  simp only [HM.del]; split <;> simp
theorem HM.del_same (b : Nat) : (H.del b) b = none := by simp [HM.del]

theorem foldl_set {I : Nat → Prop} : ∀ (ps : List Nat) (xs : List AV) (vs : List Value) (tmps : Array Value) (tm : Nat → AV), (∀ p ∈ ps, p < tmps.size) → RepL I w xs vs →
    (∀ t, Rep I w (tm t) (tmps.getD t undef)) →
    ((ps.zip vs).foldl (fun t (p : Nat × Value) => t.setIfInBounds p.1 p.2) tmps).size = tmps.size ∧
    ∀ t, Rep I w (setPs ps xs tm t) (((ps.zip vs).foldl (fun t (p : Nat × Value) => t.setIfInBounds p.1 p.2) tmps).getD t undef)
  | [], _, _, tmps, tm, _, _, h => ⟨rfl, h⟩
  | p :: ps, _, _, tmps, tm, _, .nil, h => ⟨rfl, h⟩
  | p :: ps, _, _, tmps, tm, hp, .cons (a := a) (v := v) hr hrs, h => by
    have := foldl_set ps _ _ (tmps.setIfInBounds p v) (upd tm p a) (fun q hq => by simpa using hp q (by simp [hq])) hrs (fun t => by
      unfold upd
      split
      · rename_i e
        subst e
        have hlt := hp t (by simp)
        have : (tmps.setIfInBounds t v).getD t undef = v := by simp [Array.getD_eq_getD_getElem?, hlt]
        rw [this]; exact hr
      · rename_i e
        have : (tmps.setIfInBounds p v).getD t undef = tmps.getD t undef := by
          simp [Array.getD_eq_getD_getElem?, Array.getElem?_setIfInBounds_ne (Ne.symm e)]
        rw [this]; exact h t)
    obtain ⟨h1, h2⟩ := this
    refine ⟨?_, ?_⟩
    · simpa using h1
    · intro t; simpa [setPs] using h2 t

/-- How a round may be left: on to the next, or with a jump that the statement is left by. -/
def RQ (Inv : HM → Prop) (J : AX → HM → Prop) : AX → AS → Prop
  | .normal, s => s.defs = [] ∧ ∃ H1, Drop s.H H1 ∧ Inv H1
  | .ret, s => s.defs = [] ∧ ∃ H1, Drop s.H H1 ∧ J .ret H1
  | .exit i, s => s.defs = [] ∧ ∃ H1, Drop s.H H1 ∧ J (.exit i) H1
  | .goto i, s => s.defs = [] ∧ ∃ H1, Drop s.H H1 ∧ J (.goto i) H1
  | .pan _, _ => False
/-- The assignment to the loop's variables ends normally, then the body. -/
def AQ (P : Program) (G : GT) (n : Nat) (l : Nat) (body : Code) (Q : AX → AS → Prop) : AX → AS → Prop
  | .normal, s => s.defs = [] ∧ VW P G n (some l) body Q s
  | _, _ => False

def jumpOf : AX → Option Code
  | .ret => some .ret
  | .exit i => some (.exit i)
  | .goto i => some (.goto i)
  | _ => none

/-- What a round's post asks, by the exit. -/
def exitJump : Exit → Option (Option Code)
  | .normal => some none
  | .ret => some (some .ret)
  | .exit i => some (some (.exit i))
  | .goto i => some (some (.goto i))
  | _ => none
theorem roundPost_of {l : Nat} {R : Ending → World → Prop} {e : Exit} {a : Act} {w : World} {j : Option Code} {rec : Loop} (he : exitJump e = some j) (hl : w.heap[l]? = some (.loop rec))
    (h : R (.returned (.bool j.isNone)) (w.putObj l (.loop { rec with state := if j.isNone then .ready else .done, pending := j }))) : roundPost P l R e a w := by
  cases e <;> simp only [exitJump, Option.some.injEq] at he <;> first | (cases he; done) | skip
  all_goals (subst he; exact ⟨_, _, run_endRound _ hl, h⟩)

/-- A round out of its text. -/
theorem yield_call {l : Nat} {rec : Loop} {tm : Nat → AV} {ps : List Nat} {assign body : Code} {Inv : HM → Prop} {J : AX → HM → Prop} {x : List AV} {H : HM} {K : ARes → HM → Prop}
    (hps : rec.params = ps.toArray) (hlen : x.length = ps.length) (hass : rec.assign = assign) (hbod : rec.body = body) (hst0 : rec.state = .ready) (hsz : rec.tmps.size = n) (hpn : ∀ p ∈ ps, p < n)
    (hl : H l = some (.loop rec tm)) (hca : cok n assign = true) (hcb : cok n body = true)
    (h : VW P G n (some l) assign (AQ P G n l body (RQ Inv J)) ⟨setPs ps x tm, H.del l, []⟩)
    (hK1 : ∀ H1, H1 l = none → Inv H1 → K (.ret (.bool true)) (H1.upd l (.loop { rec with state := .ready, pending := none } tm)))
    (hK2 : ∀ H1 X c, H1 l = none → jumpOf X = some c → J X H1 → K (.ret (.bool false)) (H1.upd l (.loop { rec with state := .done, pending := some c } tm))) :
    CallV P G (.func (.yield l) [] []) x H K := by
  intro w f vs hf hx hst
  cases hf with
  | func h1 h2 =>
    cases h1; cases h2
    obtain ⟨hr1, hr2⟩ := hst.obj _ _ hl
    have hxl := hx.length
    have hrun := run_yield (P := P) (args := vs.toArray) hr1 (by simp [hps]; omega)
    have e : ((do let d ← Deferred.ofValue (.func (.yield l) [].toArray [].toArray) vs.toArray; invoke d.target d.args : Sem Next).run P w) = (Instr.yield l vs.toArray).run P w := by
      simp [Deferred.ofValue, Sem.run_bind, Sem.run_pure, Result.andThen, invoke]
    rw [e, hrun]
    show RoundIn wide 0 P l rec.fn _ rec.assign rec.body w _
    refine roundIn_of_wpIn trivial ?_
    rw [hass, hbod]
    -- the loop's record is let go while the text runs
    have hdel := drop_del (H := H) l
    have he0 : Evo H w (H.del l) w := (Evo.refl H w).drop hdel
    have hst1 : St G (H.del l) w := hst.drop hdel
    obtain ⟨f1, f2⟩ := foldl_set (I := Imm (H.del l) w) (w := w) ps x vs rec.tmps tm (by rw [hsz]; exact hpn) (he0.repL hx) (fun t => he0.rep (hr2 t))
    have hfold : (rec.params.zip vs.toArray).foldl (fun tmps (t, a) => tmps.setIfInBounds t a) rec.tmps = (ps.zip vs).foldl (fun t (p : Nat × Value) => t.setIfInBounds p.1 p.2) rec.tmps := by
      rw [hps]; simp [← Array.foldl_toList]
    rw [hfold]
    have hs1 : Sim G n 0 ⟨setPs ps x tm, H.del l, []⟩ { tmps := (ps.zip vs).foldl (fun t (p : Nat × Value) => t.setIfInBounds p.1 p.2) rec.tmps, defers := [] } w :=
      ⟨by rw [f1, hsz], f2, hst1, .nil, Nat.zero_le _⟩
    refine wpIn_mono (h hca 0 _ w hs1) ?_
    rintro e1 a1 w1 ⟨x1, s1, q1, hx1, hsim1, hev1⟩
    cases x1 <;> first | exact q1.elim | skip
    cases e1 <;> first | exact hx1.elim | skip
    obtain ⟨hd1, hb1⟩ := q1
    have himl : Imm (H.del l) w l := ⟨(Array.getElem?_eq_some_iff.1 hr1).1, HM.del_same l⟩
    have hl1 : w1.heap[l]? = some (.loop rec) := (hev1.same l himl).trans hr1
    have hn1 : s1.H l = none := (hev1.imm l himl).2
    refine ⟨_, run_beginRound hl1 hst0, ?_⟩
    have hsim2 : Sim G n 0 s1 a1 (w1.putObj l (.loop { rec with state := .busy })) := by
      refine ⟨hsim1.size, fun t => nd_rep (loop_nd hl1) (hsim1.tmp t), nd_st (loop_nd hl1) hn1 hsim1.st, ?_, Nat.zero_le _⟩
      have := hsim1.defs
      rw [hd1] at this ⊢
      cases hds : a1.defers with
      | nil => exact .nil
      | cons d ds => rw [hds] at this; cases this
    refine wpIn_mono (hb1 hcb 0 a1 _ hsim2) ?_
    rintro e2 a2 w2 ⟨x2, s2, q2, hx2, hsim3, hev2⟩
    have hlt1 : l < w1.heap.size := (Array.getElem?_eq_some_iff.1 hl1).1
    have hl1' : (w1.putObj l (.loop { rec with state := .busy })).heap[l]? = some (.loop { rec with state := .busy }) := by
      rw [World.putObj_heap_same hlt1]
    have himl2 : Imm s1.H (w1.putObj l (.loop { rec with state := .busy })) l := ⟨by simpa using hlt1, hn1⟩
    have hl2 : w2.heap[l]? = some (.loop { rec with state := .busy }) := (hev2.same l himl2).trans hl1'
    have hn2 : s2.H l = none := (hev2.imm l himl2).2
    have hlt2 : l < w2.heap.size := (Array.getElem?_eq_some_iff.1 hl2).1
    -- the record is taken up again
    have fin : ∀ (j : Option Code) (H1 : HM), Drop s2.H H1 → exitJump e2 = some j →
        K (.ret (.bool j.isNone)) (H1.upd l (.loop { rec with state := if j.isNone then .ready else .done, pending := j } tm)) →
        roundPost P l (fun
          | .returned v, w'' => Out G H w (fun a => K (.ret a)) v w''
          | .panicked chain, w'' => ∃ v, chain = [{ v, recovered := false }] ∧ Out G H w (fun a => K (.pan a)) v w''
          | .outgrown, _ => False) e2 a2 w2 := by
      intro j H1 hd hej hk
      refine roundPost_of hej hl2 ?_
      have hn3 : H1 l = none := by rcases hd l with e | e <;> simp [e, hn2]
      have hst3 : St G H1 w2 := hsim3.st.drop hd
      generalize hrec : ({ rec with state := if j.isNone then .ready else .done, pending := j } : Loop) = rec' at hk
      have hrt : rec'.tmps = rec.tmps := by rw [← hrec]
      show Out G H w (fun a => K (.ret a)) (.bool j.isNone) (w2.putObj l (.loop rec'))
      have hevAll : Evo H w (H1.upd l (.loop rec' tm)) (w2.putObj l (.loop rec')) := by
        have e3 : Evo (H.del l) w s1.H w1 := hev1
        have e5 : Evo s1.H (w1.putObj l (.loop { rec with state := .busy })) H1 w2 := hev2.drop hd
        refine ⟨?_, ?_, ?_, ?_, fun b hb => ?_⟩
        · have := e5.os; have := e3.os; simp_all [World.putObj]
        · have := e5.tape; have := e3.tape; simp_all [World.putObj]
        · have := e5.output; have := e3.output; simp_all [World.putObj]
        · have h1 := e3.size; have h2 := e5.size
          simp only [World.putObj_size] at h2 ⊢
          omega
        · have hbl : b ≠ l := by rintro rfl; have := hb.2; rw [hl] at this; cases this
          have hb1 : Imm (H.del l) w b := ⟨hb.1, by simp [HM.del, hbl, hb.2]⟩
          have hb2 := e3.imm b hb1
          have hb3 : Imm s1.H (w1.putObj l (.loop { rec with state := .busy })) b := ⟨by simpa using hb2.1, hb2.2⟩
          refine ⟨by rw [HM.upd_ne _ _ hbl]; exact (e5.imm b hb3).2, ?_⟩
          rw [put_other hbl, e5.same b hb3, put_other hbl, e3.same b hb1]
      have hrepUp : ∀ {a : AV} {v : Value}, Rep (Imm H1 w2) w2 a v → Rep (Imm (H1.upd l (.loop rec' tm)) (w2.putObj l (.loop rec'))) (w2.putObj l (.loop rec')) a v := fun hr =>
        hr.keep2 (fun k hk hdk => ⟨by simpa using hk.1, by
          have : k ≠ l := by rintro rfl; rw [loop_nd hl2] at hdk; cases hdk
          rw [HM.upd_ne _ _ this]; exact hk.2⟩) (fun _ _ _ hc => nd_cell (loop_nd hl2) hc) (fun _ _ _ _ hm => nd_map (loop_nd hl2) hm)
      have hrepUpL : ∀ {a : List AV} {v : List Value}, RepL (Imm H1 w2) w2 a v → RepL (Imm (H1.upd l (.loop rec' tm)) (w2.putObj l (.loop rec'))) (w2.putObj l (.loop rec')) a v := fun hr =>
        hr.keep2 (fun k hk hdk => ⟨by simpa using hk.1, by
          have : k ≠ l := by rintro rfl; rw [loop_nd hl2] at hdk; cases hdk
          rw [HM.upd_ne _ _ this]; exact hk.2⟩) (fun _ _ _ hc => nd_cell (loop_nd hl2) hc) (fun _ _ _ _ hm => nd_map (loop_nd hl2) hm)
      refine ⟨.bool j.isNone, _, hk, .val _ trivial, ⟨fun k ob e => ?_, fun g cs e => (hst3.glob g cs e).map (fun hi hdk => ⟨by simpa using hi.1, by
          have : g ≠ l := by rintro rfl; rw [loop_nd hl2] at hdk; cases hdk
          rw [HM.upd_ne _ _ this]; exact hi.2⟩) (fun _ hdk => put_other (by rintro rfl; rw [loop_nd hl2] at hdk; cases hdk)) fun hr => hrepUpL hr⟩, hevAll⟩
      by_cases hkl : k = l
      · subst hkl
        rw [HM.upd_same] at e
        cases e
        refine ⟨World.putObj_heap_same hlt2, fun t => ?_⟩
        rw [hrt]
        exact hevAll.rep (hr2 t)
      · rw [HM.upd_ne _ _ hkl] at e
        refine (hst3.obj k ob e).keep2 (fun k hk hdk => ⟨by simpa using hk.1, ?_⟩) (fun _ _ _ hc => nd_cell (loop_nd hl2) hc) (fun _ _ _ _ hm => nd_map (loop_nd hl2) hm) (put_other hkl)
        have : k ≠ l := by rintro rfl; rw [loop_nd hl2] at hdk; cases hdk
        rw [HM.upd_ne _ _ this]; exact hk.2
    have hnone : ∀ H1, Drop s2.H H1 → H1 l = none := fun H1 hd => by rcases hd l with e | e <;> simp [e, hn2]
    cases x2 with
    | normal =>
      obtain ⟨hd2, H1, hdr, hi⟩ := q2
      cases e2 <;> first | exact hx2.elim | skip
      exact fin none H1 hdr rfl (hK1 H1 (hnone H1 hdr) hi)
    | ret =>
      obtain ⟨hd2, H1, hdr, hi⟩ := q2
      cases e2 <;> first | exact hx2.elim | skip
      exact fin (some .ret) H1 hdr rfl (hK2 H1 .ret _ (hnone H1 hdr) rfl hi)
    | exit i =>
      obtain ⟨hd2, H1, hdr, hi⟩ := q2
      cases e2 <;> first | exact hx2.elim | skip
      rename_i i'
      obtain rfl : i = i' := hx2
      exact fin (some (.exit i)) H1 hdr rfl (hK2 H1 (.exit i) _ (hnone H1 hdr) rfl hi)
    | goto i =>
      obtain ⟨hd2, H1, hdr, hi⟩ := q2
      cases e2 <;> first | exact hx2.elim | skip
      rename_i i'
      obtain rfl : i = i' := hx2
      exact fin (some (.goto i)) H1 hdr rfl (hK2 H1 (.goto i) _ (hnone H1 hdr) rfl hi)
    | pan v => exact q2.elim

theorem W_round : (W none).round = none := rfl
/-- **A range over a function, not within another one's round.** -/
theorem VW_rangeFunc {g : Operand} {ps : Array Nat} {assign body : Code} {gf : FuncId} {first cap : List AV} {xs : List (List AV)} {tm : Nat → AV} {H : HM} {ds : List ADef}
    (hg : ev G tm g = .func (.func gf) first cap) (hI : Iter P G gf first cap xs) (hlen : ∀ x ∈ xs, x.length = ps.size) (Inv : Nat → HM → Prop) (J : AX → HM → Prop) (h0 : Inv 0 H)
    (round : ∀ l i x H', xs[i]? = some x → Inv i H' → VW P G n (some l) assign (AQ P G n l body (RQ (Inv (i + 1)) J)) ⟨setPs ps.toList x tm, H', []⟩)
    (done : ∀ D H', Inv xs.length H' → H' D = none → .mark D ∉ ds → Q .normal ⟨tm, H', .mark D :: ds⟩)
    (jump : ∀ D X H' c, J X H' → jumpOf X = some c → H' D = none → .mark D ∉ ds → Q X ⟨tm, H', .mark D :: ds⟩) :
    VW P G n none (.rangeFunc g ps assign body) Q ⟨tm, H, ds⟩ := by
  intro hc B a w hs
  simp only [cok, Bool.and_eq_true] at hc
  obtain ⟨⟨⟨hc1, hc2⟩, hc3⟩, hc4⟩ := hc
  refine wpIn_rangeFunc fun fn _ => ?_
  generalize hrec : ({ state := .ready, pending := none, fn := fn, tmps := a.tmps, params := ps, assign := assign, body := body, defers := w.heap.size } : Loop) = rec
  have hrecF : rec.params = ps ∧ rec.assign = assign ∧ rec.body = body ∧ rec.state = .ready ∧ rec.tmps = a.tmps ∧ rec.pending = none := by rw [← hrec]; exact ⟨rfl, rfl, rfl, rfl, rfl, rfl⟩
  obtain ⟨g1, g2, g3, g4, g5, g6⟩ := hrecF
  have hrecE : ({ rec with state := .ready, pending := none } : Loop) = rec := by rw [← hrec]
  generalize hD : w.heap.size = D at *
  have hDs : D = w.heap.size := hD.symm
  -- the world in which the function is called
  generalize hw1 : ((w.alloc (.deferred (some []))).alloc (.loop rec)) = w1
  have hal : ∀ (w : World) (o : Obj), w.alloc o = { w with heap := w.heap.push o } := fun w o => rfl
  have hst0 : St G H (w.alloc (.deferred (some []))) := by rw [hal]; exact hs.st.push _
  have hev0 : Evo H w H (w.alloc (.deferred (some []))) := by rw [hal]; exact evo_push H w _
  have hsz0 : (w.alloc (.deferred (some []))).heap.size = D + 1 := by rw [hal]; simp [hD]
  have hevN : Evo H (w.alloc (.deferred (some []))) (H.upd (D + 1) (.loop rec tm)) w1 := by
    rw [← hw1, hal (w.alloc _), ← hsz0]; exact evo_new hst0
  have hev1 : Evo H w (H.upd (D + 1) (.loop rec tm)) w1 := hev0.trans hevN
  have hl1 : w1.heap[D + 1]? = some (.loop rec) := by rw [← hw1, ← hsz0]; exact World.alloc_heap_new _ _
  have hst1 : St G (H.upd (D + 1) (.loop rec tm)) w1 := by
    have := hst0.new (o := .loop rec) (ao := .loop rec tm)
    rw [← hal, hsz0, hw1] at this
    refine this ⟨hl1, fun t => ?_⟩
    rw [g5]; exact hev1.rep (hs.tmp t)
  have hHl : H (D + 1) = none := hst0.fresh (by omega)
  have hHD : H D = none := hs.st.fresh (by omega)
  have hdef0 : (w.alloc (.deferred (some []))).heap[D]? = some (.deferred (some [])) := by rw [← hD]; exact World.alloc_heap_new _ _
  have hdef1 : w1.heap[D]? = some (.deferred (some [])) := by
    rw [← hw1, hal (w.alloc _), heap_push _ _ (by omega)]; exact hdef0
  have hmk : .mark D ∉ ds := fun hm => by have := hs.defs.lt hm; omega
  have hgr := hs.eval (x := g) hc1
  rw [eval_ev, hg] at hgr
  generalize hgv : a.eval g = gv at hgr
  cases hgr with
  | func hf hcp =>
    rename_i vf vc
    refine ⟨D + 1, [{ target := .collected D, args := #[] }], w1, { target := .fn (.func gf) vc.toArray, args := vf.toArray ++ #[Value.func (.yield (D + 1)) #[] #[]] }, w1, gf, (vf ++ [Value.func (.yield (D + 1)) #[] #[]] ++ vc).toArray, w1, ?_, ?_, (fun _ _ => trivial), ?_, (fun h => by simp [W, Fence.wide] at h), ?_⟩
    · rw [W_round, run_enterLoop_outer, hD, hrec, hw1]
    · simp only [resolve, rangeCall, hgv]
      simp [Deferred.ofValue, Sem.run_pure, Act.eval]
    · simp only [invoke, run_callFunc hI.1]
      simp
    · have hargs : RepL (Imm (H.upd (D + 1) (.loop rec tm)) w1) w1 (first ++ [.func (.yield (D + 1)) [] []] ++ cap) (vf ++ [Value.func (.yield (D + 1)) #[] #[]] ++ vc) :=
        ((hev1.repL hf).append (.cons (.func .nil .nil) .nil)).append (hev1.repL hcp)
      have hcall := hI.2 (D + 1) (fun i H'' => ∃ H', H' (D + 1) = none ∧ Inv i H' ∧ H'' = H'.upd (D + 1) (.loop rec tm))
        (fun H'' => ∃ H' X c, H' (D + 1) = none ∧ jumpOf X = some c ∧ J X H' ∧ H'' = H'.upd (D + 1) (.loop { rec with state := .done, pending := some c } tm))
        (H.upd (D + 1) (.loop rec tm)) ⟨H, hHl, h0, rfl⟩ (by
          rintro i x _ hx ⟨H', hn', hinv, rfl⟩
          refine yield_call (n := n) (ps := ps.toList) (rec := rec) (tm := tm) (assign := assign) (body := body) (Inv := Inv (i + 1)) (J := J) (by simp [g1]) (by have := hlen x (List.mem_of_getElem? hx); simpa using this) g2 g3 g4 (by rw [g5]; exact hs.size) ?_ (HM.upd_same _ _ _) hc3 hc4 ?_ ?_ ?_
          · intro p hp
            have := Array.all_eq_true_iff_forall_mem.1 hc2 p (by simpa using hp)
            simpa using this
          · rw [HM.del_upd _ hn']; exact round _ i x H' hx hinv
          · intro H1 hn1 hi1
            rw [hrecE]
            exact .inl ⟨rfl, H1, hn1, hi1, rfl⟩
          · intro H1 X c hn1 hj hJ
            exact .inr ⟨rfl, H1, X, c, hn1, hj, hJ, rfl⟩)
      refine CallsIn.mono (callsIn_W.1 (hcall w1 _ hargs hst1)) fun e w' he => ?_
      -- behind the call
      have after : ∀ (H' : HM) (rec' : Loop), H' (D + 1) = none → St G (H'.upd (D + 1) (.loop rec' tm)) w' → Evo (H.upd (D + 1) (.loop rec tm)) w1 (H'.upd (D + 1) (.loop rec' tm)) w' → rec'.state ≠ .busy →
          ∃ w4, (Instr.endLoop (D + 1)).run P w' = .ok rec'.pending w4 ∧ Sim G n B ⟨tm, H', .mark D :: ds⟩ { a with defers := [{ target := .collected D, args := #[] }] ++ a.defers } w4 ∧ Evo H w H' w4 ∧ H' D = none := by
        intro H' rec' hn' hst' hev' hbusy
        obtain ⟨hlw, _⟩ := hst'.obj _ _ (HM.upd_same _ _ _)
        have hlt : D + 1 < w'.heap.size := (Array.getElem?_eq_some_iff.1 hlw).1
        have hdr : Drop (H'.upd (D + 1) (.loop rec' tm)) H' := Drop.upd hn'
        have hevW : Evo H w H' w' := (hev1.trans hev').drop hdr
        have hev4 : Evo H w H' (w'.putObj (D + 1) (.loop { rec' with state := .exhausted })) := by
          refine ⟨hevW.os, hevW.tape, hevW.output, by simpa using hevW.size, fun b hb => ⟨(hevW.block b hb).1, ?_⟩⟩
          rw [put_other (by have := hb.1; omega)]; exact (hevW.block b hb).2
        have imD : Imm (H.upd (D + 1) (.loop rec tm)) w1 D := ⟨(Array.getElem?_eq_some_iff.1 hdef1).1, by rw [HM.upd_ne _ _ (by omega)]; exact hHD⟩
        have hD' : H' D = none := by have := (hev'.imm D imD).2; rwa [HM.upd_ne _ _ (by omega)] at this
        refine ⟨_, run_endLoop hlw hbusy, ⟨hs.size, fun t => hev4.rep (hs.tmp t), nd_st (loop_nd hlw) hn' (hst'.drop hdr), ?_, Nat.le_trans hs.big hev4.size⟩, hev4, hD'⟩
        refine .cons (fun b hb hm => ?_) ⟨rfl, ?_, hD', by have := hs.big; omega⟩ (hs.defs.evo hev4)
        · cases hb; exact hmk hm
        · rw [put_other (by omega), hev'.same D imD]; exact hdef1
      cases e with
      | returned v =>
        obtain ⟨av, H'', ⟨hr, hk⟩, hrep, hst', hev'⟩ := he
        rcases hk with ⟨H', hn', hinv, rfl⟩ | ⟨H', X, c, hn', hj, hJ, rfl⟩
        · obtain ⟨w4, e1, e2, e3, e4⟩ := after H' rec hn' hst' hev' (by rw [g4]; simp)
          refine ⟨_, w4, e1, ?_⟩
          rw [g6]
          exact ⟨.normal, _, done D H' hinv e4 hmk, trivial, e2, e3⟩
        · obtain ⟨w4, e1, e2, e3, e4⟩ := after H' _ hn' hst' hev' (by simp)
          refine ⟨_, w4, e1, ?_⟩
          have hq := jump D X H' c hJ hj e4 hmk
          cases X <;> simp only [jumpOf, Option.some.injEq] at hj <;> first | (cases hj; done) | subst hj
          · exact wpIn_exit ⟨_, _, hq, rfl, e2, e3⟩
          · exact wpIn_goto ⟨_, _, hq, rfl, e2, e3⟩
          · exact wpIn_ret ⟨_, _, hq, trivial, e2, e3⟩
      | panicked chain =>
        obtain ⟨v, _, av, H'', ⟨hr, _⟩, _⟩ := he
        cases hr
      | outgrown => exact he.elim
/-- **A range over a function whose items come in an open order, not within another one's round.** -/
theorem VW_rangeFuncH {g : Operand} {ps : Array Nat} {assign body : Code} {gf : FuncId} {first cap : List AV} {Nx : List (List AV) → List AV → Prop} {Dn : List (List AV) → Prop} {tm : Nat → AV} {H : HM} {ds : List ADef}
    (hg : ev G tm g = .func (.func gf) first cap) (hI : IterH P G gf first cap Nx Dn) (hlen : ∀ hs x, Nx hs x → x.length = ps.size) (Inv : List (List AV) → HM → Prop) (J : AX → HM → Prop) (h0 : Inv [] H)
    (round : ∀ l hs x H', Nx hs x → Inv hs H' → VW P G n (some l) assign (AQ P G n l body (RQ (Inv (hs ++ [x])) J)) ⟨setPs ps.toList x tm, H', []⟩)
    (done : ∀ D H' hs, Dn hs → Inv hs H' → H' D = none → .mark D ∉ ds → Q .normal ⟨tm, H', .mark D :: ds⟩)
    (jump : ∀ D X H' c, J X H' → jumpOf X = some c → H' D = none → .mark D ∉ ds → Q X ⟨tm, H', .mark D :: ds⟩) :
    VW P G n none (.rangeFunc g ps assign body) Q ⟨tm, H, ds⟩ := by
  intro hc B a w hs
  simp only [cok, Bool.and_eq_true] at hc
  obtain ⟨⟨⟨hc1, hc2⟩, hc3⟩, hc4⟩ := hc
  refine wpIn_rangeFunc fun fn _ => ?_
  generalize hrec : ({ state := .ready, pending := none, fn := fn, tmps := a.tmps, params := ps, assign := assign, body := body, defers := w.heap.size } : Loop) = rec
  have hrecF : rec.params = ps ∧ rec.assign = assign ∧ rec.body = body ∧ rec.state = .ready ∧ rec.tmps = a.tmps ∧ rec.pending = none := by rw [← hrec]; exact ⟨rfl, rfl, rfl, rfl, rfl, rfl⟩
  obtain ⟨g1, g2, g3, g4, g5, g6⟩ := hrecF
  have hrecE : ({ rec with state := .ready, pending := none } : Loop) = rec := by rw [← hrec]
  generalize hD : w.heap.size = D at *
  have hDs : D = w.heap.size := hD.symm
  -- the world in which the function is called
  generalize hw1 : ((w.alloc (.deferred (some []))).alloc (.loop rec)) = w1
  have hal : ∀ (w : World) (o : Obj), w.alloc o = { w with heap := w.heap.push o } := fun w o => rfl
  have hst0 : St G H (w.alloc (.deferred (some []))) := by rw [hal]; exact hs.st.push _
  have hev0 : Evo H w H (w.alloc (.deferred (some []))) := by rw [hal]; exact evo_push H w _
  have hsz0 : (w.alloc (.deferred (some []))).heap.size = D + 1 := by rw [hal]; simp [hD]
  have hevN : Evo H (w.alloc (.deferred (some []))) (H.upd (D + 1) (.loop rec tm)) w1 := by
    rw [← hw1, hal (w.alloc _), ← hsz0]; exact evo_new hst0
  have hev1 : Evo H w (H.upd (D + 1) (.loop rec tm)) w1 := hev0.trans hevN
  have hl1 : w1.heap[D + 1]? = some (.loop rec) := by rw [← hw1, ← hsz0]; exact World.alloc_heap_new _ _
  have hst1 : St G (H.upd (D + 1) (.loop rec tm)) w1 := by
    have := hst0.new (o := .loop rec) (ao := .loop rec tm)
    rw [← hal, hsz0, hw1] at this
    refine this ⟨hl1, fun t => ?_⟩
    rw [g5]; exact hev1.rep (hs.tmp t)
  have hHl : H (D + 1) = none := hst0.fresh (by omega)
  have hHD : H D = none := hs.st.fresh (by omega)
  have hdef0 : (w.alloc (.deferred (some []))).heap[D]? = some (.deferred (some [])) := by rw [← hD]; exact World.alloc_heap_new _ _
  have hdef1 : w1.heap[D]? = some (.deferred (some [])) := by
    rw [← hw1, hal (w.alloc _), heap_push _ _ (by omega)]; exact hdef0
  have hmk : .mark D ∉ ds := fun hm => by have := hs.defs.lt hm; omega
  have hgr := hs.eval (x := g) hc1
  rw [eval_ev, hg] at hgr
  generalize hgv : a.eval g = gv at hgr
  cases hgr with
  | func hf hcp =>
    rename_i vf vc
    refine ⟨D + 1, [{ target := .collected D, args := #[] }], w1, { target := .fn (.func gf) vc.toArray, args := vf.toArray ++ #[Value.func (.yield (D + 1)) #[] #[]] }, w1, gf, (vf ++ [Value.func (.yield (D + 1)) #[] #[]] ++ vc).toArray, w1, ?_, ?_, (fun _ _ => trivial), ?_, (fun h => by simp [W, Fence.wide] at h), ?_⟩
    · rw [W_round, run_enterLoop_outer, hD, hrec, hw1]
    · simp only [resolve, rangeCall, hgv]
      simp [Deferred.ofValue, Sem.run_pure, Act.eval]
    · simp only [invoke, run_callFunc hI.1]
      simp
    · have hargs : RepL (Imm (H.upd (D + 1) (.loop rec tm)) w1) w1 (first ++ [.func (.yield (D + 1)) [] []] ++ cap) (vf ++ [Value.func (.yield (D + 1)) #[] #[]] ++ vc) :=
        ((hev1.repL hf).append (.cons (.func .nil .nil) .nil)).append (hev1.repL hcp)
      have hcall := hI.2 (D + 1) (fun hs H'' => ∃ H', H' (D + 1) = none ∧ Inv hs H' ∧ H'' = H'.upd (D + 1) (.loop rec tm))
        (fun H'' => ∃ H' X c, H' (D + 1) = none ∧ jumpOf X = some c ∧ J X H' ∧ H'' = H'.upd (D + 1) (.loop { rec with state := .done, pending := some c } tm))
        (H.upd (D + 1) (.loop rec tm)) ⟨H, hHl, h0, rfl⟩ (by
          rintro hs' x _ hx ⟨H', hn', hinv, rfl⟩
          refine yield_call (n := n) (ps := ps.toList) (rec := rec) (tm := tm) (assign := assign) (body := body) (Inv := Inv (hs' ++ [x])) (J := J) (by simp [g1]) (by have := hlen hs' x hx; simpa using this) g2 g3 g4 (by rw [g5]; exact hs.size) ?_ (HM.upd_same _ _ _) hc3 hc4 ?_ ?_ ?_
          · intro p hp
            have := Array.all_eq_true_iff_forall_mem.1 hc2 p (by simpa using hp)
            simpa using this
          · rw [HM.del_upd _ hn']; exact round _ hs' x H' hx hinv
          · intro H1 hn1 hi1
            rw [hrecE]
            exact .inl ⟨rfl, H1, hn1, hi1, rfl⟩
          · intro H1 X c hn1 hj hJ
            exact .inr ⟨rfl, H1, X, c, hn1, hj, hJ, rfl⟩)
      refine CallsIn.mono (callsIn_W.1 (hcall w1 _ hargs hst1)) fun e w' he => ?_
      -- behind the call
      have after : ∀ (H' : HM) (rec' : Loop), H' (D + 1) = none → St G (H'.upd (D + 1) (.loop rec' tm)) w' → Evo (H.upd (D + 1) (.loop rec tm)) w1 (H'.upd (D + 1) (.loop rec' tm)) w' → rec'.state ≠ .busy →
          ∃ w4, (Instr.endLoop (D + 1)).run P w' = .ok rec'.pending w4 ∧ Sim G n B ⟨tm, H', .mark D :: ds⟩ { a with defers := [{ target := .collected D, args := #[] }] ++ a.defers } w4 ∧ Evo H w H' w4 ∧ H' D = none := by
        intro H' rec' hn' hst' hev' hbusy
        obtain ⟨hlw, _⟩ := hst'.obj _ _ (HM.upd_same _ _ _)
        have hlt : D + 1 < w'.heap.size := (Array.getElem?_eq_some_iff.1 hlw).1
        have hdr : Drop (H'.upd (D + 1) (.loop rec' tm)) H' := Drop.upd hn'
        have hevW : Evo H w H' w' := (hev1.trans hev').drop hdr
        have hev4 : Evo H w H' (w'.putObj (D + 1) (.loop { rec' with state := .exhausted })) := by
          refine ⟨hevW.os, hevW.tape, hevW.output, by simpa using hevW.size, fun b hb => ⟨(hevW.block b hb).1, ?_⟩⟩
          rw [put_other (by have := hb.1; omega)]; exact (hevW.block b hb).2
        have imD : Imm (H.upd (D + 1) (.loop rec tm)) w1 D := ⟨(Array.getElem?_eq_some_iff.1 hdef1).1, by rw [HM.upd_ne _ _ (by omega)]; exact hHD⟩
        have hD' : H' D = none := by have := (hev'.imm D imD).2; rwa [HM.upd_ne _ _ (by omega)] at this
        refine ⟨_, run_endLoop hlw hbusy, ⟨hs.size, fun t => hev4.rep (hs.tmp t), nd_st (loop_nd hlw) hn' (hst'.drop hdr), ?_, Nat.le_trans hs.big hev4.size⟩, hev4, hD'⟩
        refine .cons (fun b hb hm => ?_) ⟨rfl, ?_, hD', by have := hs.big; omega⟩ (hs.defs.evo hev4)
        · cases hb; exact hmk hm
        · rw [put_other (by omega), hev'.same D imD]; exact hdef1
      cases e with
      | returned v =>
        obtain ⟨av, H'', ⟨hr, hk⟩, hrep, hst', hev'⟩ := he
        rcases hk with ⟨hs', hdn, H', hn', hinv, rfl⟩ | ⟨H', X, c, hn', hj, hJ, rfl⟩
        · obtain ⟨w4, e1, e2, e3, e4⟩ := after H' rec hn' hst' hev' (by rw [g4]; simp)
          refine ⟨_, w4, e1, ?_⟩
          rw [g6]
          exact ⟨.normal, _, done D H' hs' hdn hinv e4 hmk, trivial, e2, e3⟩
        · obtain ⟨w4, e1, e2, e3, e4⟩ := after H' _ hn' hst' hev' (by simp)
          refine ⟨_, w4, e1, ?_⟩
          have hq := jump D X H' c hJ hj e4 hmk
          cases X <;> simp only [jumpOf, Option.some.injEq] at hj <;> first | (cases hj; done) | subst hj
          · exact wpIn_exit ⟨_, _, hq, rfl, e2, e3⟩
          · exact wpIn_goto ⟨_, _, hq, rfl, e2, e3⟩
          · exact wpIn_ret ⟨_, _, hq, trivial, e2, e3⟩
      | panicked chain =>
        obtain ⟨v, _, av, H'', ⟨hr, _⟩, _⟩ := he
        cases hr
      | outgrown => exact he.elim
end
end Go.V
