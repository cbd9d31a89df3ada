/- Operations that make or change objects of one's own; the calculus of an operation. No condition. -/
import Derived.Test.YtjeiboididfgmaaGreatDoorVc
import Derived.Laws.Append
set_option linter.unusedVariables false
set_option linter.unusedSimpArgs false
namespace Go.V
open Go

section
variable {P : Program} {G : GT} {ρ : Operand → AV} {H : HM} {o : Oper} {v : AV} {w : World}

theorem setCell_put {b off : Nat} {arr : Array Value} {t : TypeId} {x : Value} (h : w.heap[b]? = some (.cells arr t (0, 0))) :
    w.setCell ⟨b, off, none⟩ x = w.putObj b (.cells (arr.setIfInBounds off x) t (0, 0)) := by
  unfold World.setCell World.putObj
  congr 1
  refine Array.ext_getElem? fun i => ?_
  rw [Array.getElem?_modify, Array.getElem?_setIfInBounds]
  by_cases e : b = i
  · subst e
    obtain ⟨hlt, hv⟩ := Array.getElem?_eq_some_iff.1 h
    simp [hv, hlt]
  · simp [e]

theorem putObj_putObj {b : Nat} {x y : Obj} : (w.putObj b x).putObj b y = w.putObj b y := by
  simp [World.putObj]

theorem run_storeCells {b : Nat} {t : TypeId} : ∀ (vs : List Value) (i off : Nat) (arr : Array Value) (w : World), w.heap[b]? = some (.cells arr t (0, 0)) → off + i + vs.length ≤ arr.size →
    (∀ u ∈ vs, u.oneCell' = true) →
    (storeCells ⟨b, off, none⟩ vs i).run P w = .ok () (w.putObj b (.cells ((vs.zipIdx i).foldl (fun cs (c, j) => cs.setIfInBounds (off + j) c) arr) t (0, 0)))
  | [], i, off, arr, w, h, _, _ => by
    simp only [storeCells, Sem.run_pure, List.zipIdx_nil, List.foldl_nil]
    congr 1
    unfold World.putObj
    obtain ⟨hlt, hv⟩ := Array.getElem?_eq_some_iff.1 h
    have : w.heap.setIfInBounds b (.cells arr t (0, 0)) = w.heap := by
      refine Array.ext_getElem? fun k => ?_
      rw [Array.getElem?_setIfInBounds]
      by_cases e : b = k
      · subst e; simp [hv, hlt]
      · simp [e]
    rw [this]
  | x :: vs, i, off, arr, w, h, hle, h1 => by
    simp only [List.length_cons] at hle
    have hc : w.cell? ⟨b, off + i, none⟩ = some (arr[off + i]'(by omega)) := by
      rw [cell_block h, Array.getElem?_eq_getElem (by omega)]
    have hx := h1 x (by simp)
    have hlt := (Array.getElem?_eq_some_iff.1 h).1
    have hw : (w.putObj b (.cells (arr.setIfInBounds (off + i) x) t (0, 0))).heap[b]? = some (.cells (arr.setIfInBounds (off + i) x) t (0, 0)) := World.putObj_heap_same hlt
    have ih := run_storeCells vs (i + 1) off (arr.setIfInBounds (off + i) x) _ hw (by simp; omega) fun u hu => h1 u (by simp [hu])
    simp only [storeCells, Sem.run_bind, add_plain, run_store P w _ x _ hx, hc, frozen_block h, Bool.false_eq_true, if_false, Result.andThen]
    rw [setCell_put h, ih, putObj_putObj]
    simp [List.zipIdx_cons]

/-- The world whose block b holds other cells. -/
theorem St.put_cells {b : Nat} {ao : AObj} {x : Obj} (h : St G H w) (hb : H b ≠ none)
    (hn : RepO (Imm (H.upd b ao) (w.putObj b x)) (w.putObj b x) b ao) : St G (H.upd b ao) (w.putObj b x) ∧ Evo H w (H.upd b ao) (w.putObj b x) := by
  have hk : ∀ k, k ≠ b → (w.putObj b x).heap[k]? = w.heap[k]? := fun k hk => World.putObj_heap_other hk
  have he : Evo H w (H.upd b ao) (w.putObj b x) := evo_set rfl rfl rfl (by simp) hk hb
  exact ⟨h.set he hk hn, he⟩

/-- Part of the cells replaced. -/
def splice (cs : List AV) (off : Nat) (new : List AV) : List AV := cs.take off ++ new ++ cs.drop (off + new.length)

theorem set_range {arr : Array Value} {off : Nat} {ws : List Value} (h : off + ws.length ≤ arr.size) :
    ((ws.zipIdx 0).foldl (fun cs (c, j) => cs.setIfInBounds (off + j) c) arr) = (arr.toList.take off ++ ws ++ arr.toList.drop (off + ws.length)).toArray := by
  apply Array.ext'
  rw [fill_toList, set_run _ 0 _ (by simpa using h)]
  simp

theorem store_cells {t et b off : Nat} {ti : TI} {cs : List AV} {a x : AV} {av xv : Value} (ht : tiOf P t = some ti) (hb : H b = some (.cells et cs)) (hx : Rep (Imm H w) w x xv)
    (hl : x.cells.length = ti.size) (ho : off + ti.size ≤ cs.length) (h1 : x.one = true) (hst : St G H w) :
    ∃ w', (Instr.storeAt t (.pointer (some ⟨b, off, none⟩)) xv).run P w = .ok () w' ∧ St G (H.upd b (.cells et (splice cs off x.cells))) w' ∧ Evo H w (H.upd b (.cells et (splice cs off x.cells))) w' := by
  obtain ⟨i, d, z, hi⟩ := tiOf_some ht
  obtain ⟨vs, e1, e2, e3⟩ := hst.obj _ _ hb
  have hsz : xv.cells.size = ti.size := by rw [← hx.size]; exact hl
  have hvl := e2.length
  have hle : off + xv.cells.toList.length ≤ vs.toArray.size := by simp; omega
  have hrun := run_storeCells (P := P) xv.cells.toList 0 off vs.toArray w e1 (by simpa using hle) (hx.one h1)
  rw [set_range hle] at hrun
  refine ⟨w.putObj b (.cells (vs.toArray.toList.take off ++ xv.cells.toList ++ vs.toArray.toList.drop (off + xv.cells.toList.length)).toArray et (0, 0)), ?_, ?_⟩
  · simp only [Instr.storeAt, Instr.sureAddr, storeVar, Sem.run_bind, Sem.run_pure, Result.andThen, run_sizeOf' hi, hsz, ne_eq, not_true_eq_false, if_false, hrun, Sem.run_ite]
  · have hlt := (Array.getElem?_eq_some_iff.1 e1).1
    have he : Evo H w (H.upd b (.cells et (splice cs off x.cells))) (w.putObj b (.cells (vs.toArray.toList.take off ++ xv.cells.toList ++ vs.toArray.toList.drop (off + xv.cells.toList.length)).toArray et (0, 0))) :=
      evo_set rfl rfl rfl (by simp) (fun k hk => World.putObj_heap_other hk) (by simp [hb])
    refine St.put_cells hst (by simp [hb]) ⟨_, World.putObj_heap_same hlt, ?_, ?_⟩
    · have hxc := he.repL hx.cells
      have hcs := he.repL e2
      have hxl : x.cells.length = xv.cells.toList.length := by rw [hx.size]; simp
      have e : vs.drop (off + xv.cells.toList.length) = vs.drop (off + x.cells.length) := by rw [hxl]
      have := ((hcs.take off).append hxc).append (hcs.drop (off + x.cells.length))
      rw [← e] at this
      exact this
    · intro u hu
      simp only [List.mem_append] at hu
      rcases hu with (hu | hu) | hu
      · exact e3 u (List.mem_of_mem_take hu)
      · exact hx.one h1 u hu
      · exact e3 u (List.mem_of_mem_drop hu)

/-- An element's new value where cells of it are replaced. -/
def elemPut (x0 : AV) (off : Nat) (v : AV) (sz : Nat) : Option AV :=
  if off = 0 ∧ v.cells.length = sz then some v else
    match x0 with
    | .agg cs => if off + v.cells.length ≤ cs.length then some (.agg (splice cs off v.cells)) else none
    | _ => none
theorem elemPut_cells {x0 v' x : AV} {off sz : Nat} (h : elemPut x0 off x sz = some v') (h0 : x0.cells.length = sz) : v'.cells = splice x0.cells off x.cells ∧ off + x.cells.length ≤ sz := by
  unfold elemPut at h
  split at h
  · rename_i hc
    cases h
    obtain ⟨rfl, hc⟩ := hc
    refine ⟨?_, by omega⟩
    simp only [splice, List.take_zero, List.nil_append, Nat.zero_add]
    rw [List.drop_eq_nil_of_le (by omega)]; simp
  · split at h
    · split at h
      · rename_i hl
        cases h
        exact ⟨rfl, by simp only [AV.cells] at h0; omega⟩
      · cases h
    · cases h

theorem flat_set {xs : List AV} {sz i : Nat} {x0 x : AV} {off : Nat} {v' : AV} (hz : ∀ x ∈ xs, x.cells.length = sz) (h0 : xs[i]? = some x0) (hv : v'.cells = splice x0.cells off x.cells)
    (hle : off + x.cells.length ≤ sz) : flat (xs.set i v') = splice (flat xs) (i * sz + off) x.cells := by
  induction xs generalizing i with
  | nil => simp at h0
  | cons y ys ih =>
    have hy := hz y (by simp)
    cases i with
    | zero =>
      simp only [List.getElem?_cons_zero, Option.some.injEq] at h0
      subst h0
      simp only [List.set_cons_zero, flat_cons, hv, splice, Nat.zero_mul, Nat.zero_add]
      rw [List.take_append_of_le_length (by omega), List.drop_append_of_le_length (by omega)]
      simp
    | succ i =>
      simp only [List.getElem?_cons_succ] at h0
      simp only [List.set_cons_succ, flat_cons]
      rw [ih (fun x hx => hz x (by simp [hx])) h0]
      simp only [splice]
      have e : (i + 1) * sz + off = y.cells.length + (i * sz + off) := by rw [hy, Nat.succ_mul]; omega
      rw [e, List.take_length_add_append, Nat.add_assoc y.cells.length, List.drop_length_add_append]
      simp

theorem store_elem {t b i sz off et cap : Nat} {ti : TI} {xs : List AV} {x0 x v' : AV} {xv : Value} (ht : tiOf P t = some ti) (hb : H b = some (.row et sz cap xs)) (h0 : xs[i]? = some x0)
    (hv : elemPut x0 off x sz = some v') (hx : Rep (Imm H w) w x xv) (hl : x.cells.length = ti.size) (h1 : x.one = true) (hst : St G H w) :
    ∃ w', (Instr.storeAt t (.pointer (some ⟨b, i * sz + off, none⟩)) xv).run P w = .ok () w' ∧ St G (H.upd b (.row et sz cap (xs.set i v'))) w' ∧ Evo H w (H.upd b (.row et sz cap (xs.set i v'))) w' := by
  obtain ⟨ii, d, z, hi⟩ := tiOf_some ht
  obtain ⟨vs, rest, e1, e2, e3, e4, e5, e6⟩ := hst.obj _ _ hb
  have hx0 := e3 x0 (List.mem_of_getElem? h0)
  obtain ⟨c1, c2⟩ := elemPut_cells hv hx0
  have hsz : xv.cells.size = ti.size := by rw [← hx.size]; exact hl
  have hvl := e2.length
  rw [flat_length e3] at hvl
  have hilt : i < xs.length := (List.getElem?_eq_some_iff.1 h0).1
  have hrow : (i + 1) * sz ≤ xs.length * sz := Nat.mul_le_mul_right _ hilt
  rw [Nat.succ_mul] at hrow
  have hxl : x.cells.length = xv.cells.toList.length := by rw [hx.size]; simp
  have hle0 : i * sz + off + xv.cells.toList.length ≤ vs.length := by omega
  have hle : i * sz + off + xv.cells.toList.length ≤ (vs ++ rest).toArray.size := by simp; simp at hle0; omega
  have hrun := run_storeCells (P := P) xv.cells.toList 0 (i * sz + off) (vs ++ rest).toArray w e1 (by simpa using hle) (hx.one h1)
  rw [set_range hle] at hrun
  refine ⟨w.putObj b (.cells ((vs ++ rest).toArray.toList.take (i * sz + off) ++ xv.cells.toList ++ (vs ++ rest).toArray.toList.drop (i * sz + off + xv.cells.toList.length)).toArray et (0, 0)), ?_, ?_⟩
  · simp only [Instr.storeAt, Instr.sureAddr, storeVar, Sem.run_bind, Sem.run_pure, Result.andThen, run_sizeOf' hi, hsz, ne_eq, not_true_eq_false, if_false, hrun, Sem.run_ite]
  · have hlt := (Array.getElem?_eq_some_iff.1 e1).1
    have he : Evo H w (H.upd b (.row et sz cap (xs.set i v'))) (w.putObj b (.cells ((vs ++ rest).toArray.toList.take (i * sz + off) ++ xv.cells.toList ++ (vs ++ rest).toArray.toList.drop (i * sz + off + xv.cells.toList.length)).toArray et (0, 0))) :=
      evo_set rfl rfl rfl (by simp) (fun k hk => World.putObj_heap_other hk) (by simp [hb])
    refine St.put_cells hst (by simp [hb]) ⟨vs.take (i * sz + off) ++ xv.cells.toList ++ vs.drop (i * sz + off + xv.cells.toList.length), rest, ?_, ?_, ?_, ?_, ?_, ?_⟩
    · rw [World.putObj_heap_same hlt]
      simp only [List.take_append_of_le_length (show i * sz + off ≤ vs.length by omega), List.drop_append_of_le_length hle0, List.append_assoc]
    · rw [flat_set e3 h0 c1 c2]
      have hcs := he.repL e2
      have e : vs.drop (i * sz + off + xv.cells.toList.length) = vs.drop (i * sz + off + x.cells.length) := by rw [hxl]
      have := ((hcs.take (i * sz + off)).append (he.repL hx.cells)).append (hcs.drop (i * sz + off + x.cells.length))
      rw [← e] at this
      exact this
    · intro y hy
      rcases List.mem_or_eq_of_mem_set hy with hy | rfl
      · exact e3 y hy
      · rw [c1]; simp [splice]; omega
    · intro u hu
      simp only [List.mem_append] at hu
      rcases hu with (hu | hu) | hu
      · exact e4 u (List.mem_of_mem_take hu)
      · exact hx.one h1 u hu
      · exact e4 u (List.mem_of_mem_drop hu)
    · simpa using e5
    · simpa using e6

/-! ### New objects -/
theorem imm_new {ao : AObj} {x : Obj} : ∀ b, Imm H w b → Imm (H.upd w.heap.size ao) { w with heap := w.heap.push x } b := fun b hb => by
  refine ⟨by have := hb.1; simp; omega, ?_⟩
  rw [HM.upd_ne _ _ (by have := hb.1; omega)]; exact hb.2

/-- A new variable of one's own. -/
theorem new_cells {et : Nat} {cs : List AV} {vs : List Value} (hr : RepL (Imm H w) w cs vs) (h1 : ∀ u ∈ vs, u.oneCell' = true) (hst : St G H w) :
    St G (H.upd w.heap.size (.cells et cs)) { w with heap := w.heap.push (.cells vs.toArray et (0, 0)) } ∧
    Evo H w (H.upd w.heap.size (.cells et cs)) { w with heap := w.heap.push (.cells vs.toArray et (0, 0)) } := by
  refine ⟨hst.new ⟨vs, by simp, ?_, h1⟩, evo_new hst⟩
  exact (evo_new (ao := .cells et cs) hst).repL hr
/-- New memory that nobody will write. -/
theorem new_imm {et : Nat} {cs : List AV} {vs : List Value} (hr : RepL (Imm H w) w cs vs) (h1 : ∀ u ∈ vs, u.oneCell' = true) (hst : St G H w) :
    let w' : World := { w with heap := w.heap.push (.cells vs.toArray et (0, 0)) }
    St G H w' ∧ Evo H w H w' ∧ Imm H w' w.heap.size ∧ RepL (Imm H w') w' cs vs ∧ Reads w' ⟨w.heap.size, 0, none⟩ vs := by
  refine ⟨hst.push _, evo_push _ _ _, ⟨by simp, hst.fresh (Nat.le_refl _)⟩, (evo_push _ _ _).repL hr, fun i v hi => ?_⟩
  rw [add_plain, cell_block (arr := vs.toArray) (t := et) (fr := (0, 0)) (by simp)]
  simpa using hi

theorem run_newVar {t : Nat} {x : Value} : (newVar t x).run P w = .ok ⟨w.heap.size, 0, none⟩ { w with heap := w.heap.push (.cells x.cells t (0, 0)) } := by
  simp [newVar, newRow, Result.andThen]

/-! ### Maps of one's own -/
def assocSet (k : Value) (v : AV) : List (AV × AV) → List (AV × AV)
  | [] => [(.val k, v)]
  | (.val u, x) :: es => if sameKeyV k u then (.val k, v) :: es else (.val u, x) :: assocSet k v es
  | e :: es => e :: assocSet k v es

theorem ba_beq (a b : ByteArray) : (a == b) = true ↔ a = b := by
  cases a with | mk x => cases b with | mk y =>
  constructor
  · intro h
    have : x == y := h
    simpa using this
  · intro h; cases h; show (x == x) = true; simp
theorem sameKeyV_eq {k u : Value} {d : TD} (h1 : keyFits d k = true) (h2 : keyFits d u = true) : sameKeyV k u = true ↔ k = u := by
  cases d <;> simp only [keyFits] at h1 h2 <;> try (cases h1; done)
  all_goals (cases k <;> simp only [keyFits] at h1 <;> try (cases h1; done))
  all_goals (cases u <;> simp only [keyFits] at h2 <;> try (cases h2; done))
  · simp only [beq_iff_eq] at h1 h2
    simp only [sameKeyV, beq_iff_eq, Value.int.injEq]
    exact ⟨fun e => ⟨by rw [← h1, ← h2], e⟩, fun e => e.2⟩
  · simp [sameKeyV]
  · simp [sameKeyV, ba_beq]

theorem key_ok {d : TD} {k : Value} (h : keyFits d k = true) (ho : ∀ s, k = .string s → s.size ≤ lim) : okV k := by
  cases d <;> simp only [keyFits] at h <;> try (cases h; done)
  all_goals (cases k <;> simp only [keyFits] at h <;> try (cases h; done))
  all_goals first | trivial | exact ho _ rfl

theorem find_set {kd : TypeDesc} {key : Value} {v : AV} {x : Value} (hf : keyFits (tdOf P kd) key = true) (hkr : Rep (Imm H w) w (.val key) key) (hvr : Rep (Imm H w) w v x) : ∀ {es : List (AV × AV)} {ents : List MapEntry} (i : Nat),
    RepL (Imm H w) w (es.map (·.1)) (ents.map (·.key)) → RepL (Imm H w) w (es.map (·.2)) (ents.map (·.val)) → keysOk (tdOf P kd) es = true →
    (∃ j u e, Instr.findNow kd key ents i = some (some (i + j, u)) ∧ ents[j]? = some e ∧ e.key = key ∧
      RepL (Imm H w) w ((assocSet key v es).map (·.1)) ((ents.modify j fun e => { e with key := key, val := x }).map (·.key)) ∧
      RepL (Imm H w) w ((assocSet key v es).map (·.2)) ((ents.modify j fun e => { e with key := key, val := x }).map (·.val))) ∨
    (Instr.findNow kd key ents i = some none ∧ ∀ born, RepL (Imm H w) w ((assocSet key v es).map (·.1)) ((ents ++ [(⟨key, x, born⟩ : MapEntry)]).map (·.key)) ∧
      RepL (Imm H w) w ((assocSet key v es).map (·.2)) ((ents ++ [(⟨key, x, born⟩ : MapEntry)]).map (·.val)))
  | [], [], i, _, _, _ => .inr ⟨rfl, fun born => ⟨.cons hkr .nil, .cons hvr .nil⟩⟩
  | [], _ :: _, i, h, _, _ => by cases h
  | _ :: _, [], i, h, _, _ => by cases h
  | (k, y) :: es, e :: ents, i, hk, hv, ho => by
    cases hk with
    | cons hk1 hk2 =>
      cases hv with
      | cons hv1 hv2 =>
        simp only [keysOk, List.all_cons, Bool.and_eq_true] at ho
        cases k with
        | val u =>
          simp only at ho
          have hu : e.key = u := hk1.val_eq
          have hs : Instr.sameNow kd key e.key = some (sameKeyV key u) := by
            rw [hu]
            have h1 := ho.1
            cases kd <;> simp only [tdOf, keyFits] at hf h1 <;> try (cases hf; done)
            all_goals (cases key <;> simp only [keyFits] at hf <;> try (cases hf; done))
            all_goals (cases u <;> simp only [keyFits] at h1 <;> try (cases h1; done))
            all_goals simp_all [Instr.sameNow, sameKeyV]
          cases hq : sameKeyV key u with
          | true =>
            refine .inl ⟨0, e.val, e, ?_, rfl, ?_, ?_, ?_⟩
            · simp only [Instr.findNow, hs, hq, Nat.add_zero]
            · rw [hu]; exact ((sameKeyV_eq hf ho.1).1 hq).symm
            · simp only [assocSet, hq, if_true]; exact .cons hkr hk2
            · simp only [assocSet, hq, if_true]; exact .cons hvr hv2
          | false =>
            rcases find_set hf hkr hvr (i + 1) hk2 hv2 ho.2 with ⟨j, u', e', e1, e2, e3, e4, e5⟩ | ⟨e1, e2⟩
            · refine .inl ⟨j + 1, u', e', ?_, by simpa using e2, e3, ?_, ?_⟩
              · simp only [Instr.findNow, hs, hq]
                rw [e1]; congr 3; omega
              · simp only [assocSet, hq, Bool.false_eq_true, if_false, List.modify_succ_cons]; exact .cons hk1 e4
              · simp only [assocSet, hq, Bool.false_eq_true, if_false, List.modify_succ_cons]; exact .cons hv1 e5
            · refine .inr ⟨?_, fun born => ⟨?_, ?_⟩⟩
              · simp only [Instr.findNow, hs, hq]; exact e1
              · simp only [assocSet, hq, Bool.false_eq_true, if_false]; exact .cons hk1 (e2 born).1
              · simp only [assocSet, hq, Bool.false_eq_true, if_false]; exact .cons hv1 (e2 born).2
        | _ => simp at ho

theorem sameBits_key {d : TD} {k : Value} (h : keyFits d k = true) (n : Nat) : Instr.sameBits n k k = true := by
  cases d <;> simp only [keyFits] at h <;> try (cases h; done)
  all_goals (cases k <;> simp only [keyFits] at h <;> try (cases h; done))
  all_goals (cases n <;> simp [Instr.sameBits, ba_beq])

theorem Stamps.modify {ents : Array MapEntry} {clock : Nat} (h : Stamps ents clock) (j : Nat) (k x : Value) : Stamps (ents.modify j fun e => { e with key := k, val := x }) clock := by
  have e : (ents.modify j fun e => { e with key := k, val := x }).toList.map (·.born) = ents.toList.map (·.born) := by
    rw [Array.toList_modify]
    apply List.ext_getElem?
    intro i
    simp only [List.getElem?_map, List.getElem?_modify]
    split
    · cases ents.toList[i]? <;> rfl
    · cases ents.toList[i]? <;> rfl
  refine ⟨fun y hy => ?_, by rw [e]; exact h.2⟩
  have : y.born ∈ (ents.modify j fun e => { e with key := k, val := x }).toList.map (·.born) := List.mem_map_of_mem hy
  rw [e] at this
  obtain ⟨z, hz, hq⟩ := List.mem_map.1 this
  rw [← hq]; exact h.1 z hz
theorem Stamps.push {ents : Array MapEntry} {clock : Nat} (h : Stamps ents clock) (k x : Value) : Stamps (ents.push ⟨k, x, clock⟩) (clock + 1) := by
  refine ⟨fun y hy => ?_, ?_⟩
  · simp only [Array.toList_push, List.mem_append, List.mem_singleton] at hy
    rcases hy with hy | rfl
    · exact Nat.lt_succ_of_lt (h.1 y hy)
    · exact Nat.lt_succ_self _
  · simp only [Array.toList_push, List.map_append, List.map_cons, List.map_nil]
    rw [List.nodup_append]
    refine ⟨h.2, by simp, fun a ha b hb => ?_⟩
    simp only [List.mem_singleton] at hb
    obtain ⟨z, hz, rfl⟩ := List.mem_map.1 ha
    have := h.1 z hz
    omega
theorem map_set {t kt et b : Nat} {kd : TD} {es : List (AV × AV)} {key : Value} {k v : AV} {kv x : Value} (h1 : tdAt P t = some (.map kt et)) (h4 : tdAt P kt = some kd) (hb : H b = some (.map es))
    (h3 : keyOf k = some key) (h6 : keyFits kd key = true) (h7 : keysOk kd es = true) (hk : Rep (Imm H w) w k kv) (hv : Rep (Imm H w) w v x) (hst : St G H w) :
    ∃ w', (Instr.mapUpdate t (.map (some b)) kv x).run P w = .ok () w' ∧ St G (H.upd b (.map (assocSet key v es))) w' ∧ Evo H w (H.upd b (.map (assocSet key v es))) w' := by
  obtain ⟨ki, ii, kdd, kz, hki, hkd⟩ := tdAt_some h4
  subst hkd
  have hkey := key_eq h3 hk
  subst hkey
  have hkr : Rep (Imm H w) w (.val kv) kv := by
    unfold keyOf at h3
    split at h3 <;> (first | cases h3) <;> exact hk
  obtain ⟨ents, clock, e1, e2, e3, e4⟩ := hst.obj _ _ hb
  have hlt := (Array.getElem?_eq_some_iff.1 e1).1
  have hck := run_checkKey (P := P) (w := w) hki.und h6 false 9999
  have hfk : ∀ r, Instr.findNow kdd kv ents.toList 0 = some r → (Instr.findKey kt kv ents.toList).run P w = .ok r w := by
    intro r hr
    simp only [Instr.findKey, Sem.run_bind, run_underlying' hki.und, Result.andThen, hr, Sem.run_pure]
  have hset : ∀ o, (setObj b o).run P w = .ok () (w.putObj b o) := by
    intro o; simp [setObj, Sem.run, e1, World.putObj]
  have fin : ∀ (ents' : Array MapEntry) c', RepL (Imm H w) w ((assocSet kv v es).map (·.1)) (ents'.toList.map (·.key)) → RepL (Imm H w) w ((assocSet kv v es).map (·.2)) (ents'.toList.map (·.val)) → Stamps ents' c' →
      St G (H.upd b (.map (assocSet kv v es))) (w.putObj b (.map ents' c')) ∧ Evo H w (H.upd b (.map (assocSet kv v es))) (w.putObj b (.map ents' c')) := by
    intro ents' c' r1 r2 r3
    have he : Evo H w (H.upd b (.map (assocSet kv v es))) (w.putObj b (.map ents' c')) := evo_set rfl rfl rfl (by simp) (fun k hk => World.putObj_heap_other hk) (by simp [hb])
    exact St.put_cells hst (by simp [hb]) ⟨ents', c', World.putObj_heap_same hlt, he.repL r1, he.repL r2, r3⟩
  rcases find_set h6 hkr hv 0 e2 e3 h7 with ⟨j, u, e, f1, f2, f3, f4, f5⟩ | ⟨f1, f2⟩
  · refine ⟨_, ?_, fin (ents.modify j fun e => { e with key := kv, val := x }) clock (by simpa using f4) (by simpa using f5) (e4.modify j kv x)⟩
    rw [Nat.zero_add] at f1
    have f2' : ents[j]? = some e := by simpa using f2
    have hks : (Instr.keyThatStays kv kv).run P w = .ok kv w := by
      simp only [Instr.keyThatStays, sameBits_key h6, if_true, Sem.run_pure]
    simp only [Instr.mapUpdate, Sem.run_bind, run_underlying' (td_map h1), Result.andThen, run_getMap e1, hck, hfk _ f1, f2', Option.map_some, Option.getD_some, f3, hks, hset]
  · refine ⟨_, ?_, fin (ents.push ⟨kv, x, clock⟩) (clock + 1) (by simpa using (f2 clock).1) (by simpa using (f2 clock).2) (e4.push kv x)⟩
    simp only [Instr.mapUpdate, Sem.run_bind, run_underlying' (td_map h1), Result.andThen, run_getMap e1, hck, hfk _ f1, hset]

/-! ### append -/
/-- What is appended, by value. -/
def srcOf (H : HM) : AV → Option (List AV)
  | .list ys => some ys
  | .nil0 => some []
  | .mlist b n cap => match H b with
    | some (.row _ _ cap' xs) => if xs.length = n ∧ cap = cap' then some xs else none
    | _ => none
  | _ => none

theorem src_get {x : AV} {xv : Value} {ys : List AV} {sz : Nat} (h : srcOf H x = some ys) (hz : ∀ y ∈ ys, y.cells.length = sz) (hr : Rep (Imm H w) w x xv) (hst : St G H w) :
    ∃ vs, Builtin.lenOf xv = pure ys.length ∧ (∀ k, (Builtin.firstCells sz ys.length xv).run P { w with drawn := k } = .ok vs.toArray { w with drawn := k }) ∧ RepL (Imm H w) w (flat ys) vs ∧
      (∀ u ∈ vs, u.oneCell' = true) ∧ vs.length = ys.length * sz := by
  have none : ∀ (a : Option Addr) (cap : Nat) k, (Builtin.firstCells sz 0 (.slice a 0 cap)).run P { w with drawn := k } = .ok [].toArray { w with drawn := k } := by
    intro a cap k
    cases a with
    | none => rfl
    | some a => simpa [Builtin.firstCells] using run_loadCells_list (P := P) (w := { w with drawn := k }) a [] (by simp)
  unfold srcOf at h
  split at h
  · cases h
    cases hr with
    | nil a cap => exact ⟨[], rfl, none a cap, .nil, by simp, by simp⟩
    | list h1 h2 h3 h4 h5 h6 h7 h8 =>
      rename_i vs ad cap sz'
      have hl := h8.length
      have hl' : vs.length = ys.length * sz := by rw [← hl, flat_length hz]
      refine ⟨vs, rfl, fun k => ?_, h8, h5, hl'⟩
      have := run_loadCells_list (P := P) (w := { w with drawn := k }) ad vs h4
      rw [hl'] at this
      simpa [Builtin.firstCells] using this
  · cases h
    cases hr with
    | nil0 a => exact ⟨[], rfl, none a 0, .nil, by simp, by simp⟩
  · rename_i b n cap
    split at h
    · rename_i t sz' cap' xs hb
      split at h
      · rename_i hc
        cases h
        cases hr
        obtain ⟨vs, rest, e1, e2, e3, e4, e5, e6⟩ := hst.obj _ _ hb
        have hl := e2.length
        have hl' : vs.length = ys.length * sz := by rw [← hl, flat_length hz]
        refine ⟨vs, by rw [hc.1]; rfl, fun k => ?_, e2, e4, hl'⟩
        have := run_loadCells_list (P := P) (w := { w with drawn := k }) ⟨b, 0, Option.none⟩ vs (fun i v hi => by
          rw [add_plain, cell_block (w := { w with drawn := k }) (b := b) e1]
          have hlt := (List.getElem?_eq_some_iff.1 hi).1
          rw [List.getElem?_toArray, List.getElem?_append_left (by omega)]
          simpa using hi)
        rw [hl'] at this
        simpa [Builtin.firstCells] using this
      · cases h
    · cases h
  · cases h

theorem run_append_fit {ts tx ty e : TypeId} {xV : Value} {xd : TypeDesc} (h1 : P.underlying ts = some (.slice e)) (h2 : P.underlying tx = some xd) (h3 : ∀ k, xd ≠ .int k) {base : Option Addr} {sl sc m sz : Nat}
    (hl : Builtin.lenOf xV = pure m) (hsz : (sizeOf e).run P w = .ok sz w) {news : List Value} (hn : (Builtin.firstCells sz m xV).run P w = .ok news.toArray w) (hfit : sl + m ≤ sc) {w' : World}
    (hs : ∀ a, base = some a → (storeCells (a.add (sl * sz)) news).run P w = .ok () w') (hs0 : base = none → w' = w) :
    (Builtin.append_ #[ts, tx] ty #[.slice base sl sc, xV]).run P w = .ok (.slice base (sl + m) sc) w' := by
  have hx : (match xd with | .int _ => true | _ => false) = false := by cases xd <;> first | rfl | exact absurd rfl (h3 _)
  cases base with
  | none =>
    rw [hs0 rfl]
    simp [Builtin.append_, run_underlying h1, run_underlying h2, Result.andThen, hsz, hx, hl, hfit, hn]
  | some a => simp [Builtin.append_, run_underlying h1, run_underlying h2, Result.andThen, hsz, hx, hl, hfit, hn, hs a rfl]

theorem run_append_more {ts tx ty e : TypeId} {xV : Value} {xd : TypeDesc} {i : TypeInfo} {z : Value} (h1 : P.underlying ts = some (.slice e)) (h2 : P.underlying tx = some xd) (h3 : ∀ k, xd ≠ .int k) {base : Option Addr} {sl sc m : Nat}
    (hi : P.info? e = some i) (hz : i.zero = some z) (hl : Builtin.lenOf xV = pure m) {olds news : List Value} (hn : ∀ k, (Builtin.firstCells i.size m xV).run P { w with drawn := k } = .ok news.toArray { w with drawn := k })
    (ho : ∀ k, (Builtin.firstCells i.size sl (.slice base sl sc)).run P { w with drawn := k } = .ok olds.toArray { w with drawn := k }) (hfit : ¬ sl + m ≤ sc) (h63 : ((sl + m : Nat) : Int) ≤ 9223372036854775807)
    (h48 : Builtin.nextslicecap (sl + m) sc * i.bytes ≤ 281474976710656) :
    (Builtin.append_ #[ts, tx] ty #[.slice base sl sc, xV]).run P w = .ok (.slice (some ⟨w.heap.size, 0, none⟩) (sl + m) (grownCap w (sl + m) sc e))
      (w.drew.alloc (.cells (olds ++ news ++ (Builtin.zeroCells z.cells (grownCap w (sl + m) sc e - (sl + m))).toList).toArray e)) := by
  have hx : (match xd with | .int _ => true | _ => false) = false := by cases xd <;> first | rfl | exact absurd rfl (h3 _)
  have h63' : ¬ (9223372036854775807 < ((sl : Int) + (m : Int))) := by omega
  have h48' : ¬ (281474976710656 < Builtin.nextslicecap (sl + m) sc * i.bytes) := by omega
  have ho' : (Builtin.firstCells i.size sl (.slice base sl sc)).run P w.drew = .ok olds.toArray w.drew := ho (w.drawn + 1)
  have hn' : (Builtin.firstCells i.size m xV).run P w.drew = .ok news.toArray w.drew := hn (w.drawn + 1)
  simp [Builtin.append_, run_underlying h1, run_underlying h2, Result.andThen, sizeOf, typeInfo, zeroValue, hi, hz, hx, hl, hfit, h63', h48', Question.forced, hn', ho', newRow, grownCap]
  congr 2
  apply Array.ext'
  simp

theorem zeroCells_size (z : Array Value) (n : Nat) : (Builtin.zeroCells z n).size = n * z.size := by simp [Builtin.zeroCells]
theorem grownCap_ge (w : World) (need old : Nat) (e : TypeId) : need ≤ grownCap w need old e := by
  simp only [grownCap, Question.cut]; omega

/-- append to a row of one's own (or to nothing). -/
theorem append_own {ts tx ty e sz : Nat} {xd : TypeDesc} {ei : TI} {s x : AV} {sV xV : Value} {xs ys : List AV} (h1 : tdAt P ts = some (.slice e sz)) (h2 : P.underlying tx = some xd) (h3 : ∀ k, xd ≠ .int k)
    (he : tiOf P e = some ei) (hby : ei.bytes ≤ 1024) (hys : srcOf H x = some ys) (hyz : ∀ y ∈ ys, y.cells.length = sz)
    (hs : (s = .nil0 ∧ xs = []) ∨ ∃ b cap, s = .mlist b xs.length cap ∧ H b = some (.row e sz cap xs) ∧ x ≠ .mlist b xs.length cap)
    (hlim : xs.length + ys.length ≤ lim) (hsr : Rep (Imm H w) w s sV) (hxr : Rep (Imm H w) w x xV) (hst : St G H w) :
    ∃ u w', (Builtin.append_ #[ts, tx] ty #[sV, xV]).run P w = .ok u w' ∧
      ((ys = [] ∧ s = .nil0 ∧ Rep (Imm H w') w' s u ∧ St G H w' ∧ Evo H w H w') ∨
       ∃ b cap, xs.length + ys.length ≤ cap ∧ (H b = none ∨ s = .mlist b xs.length cap) ∧ Rep (Imm (H.upd b (.row e sz cap (xs ++ ys))) w') w' (.mlist b (xs ++ ys).length cap) u ∧
         St G (H.upd b (.row e sz cap (xs ++ ys))) w' ∧ Evo H w (H.upd b (.row e sz cap (xs ++ ys))) w') := by
  obtain ⟨hu, hsz⟩ := slice_info (w := w) h1
  obtain ⟨i, d, z, hi⟩ := tiOf_some he
  have hisz : i.size = sz := by
    have := run_sizeOf' (w := w) hi
    rw [hi.eq] at this
    simp only at this
    rw [hsz] at this
    cases this; rfl
  obtain ⟨vs, l1, l2, l3, l4, l5⟩ := src_get (P := P) hys hyz hxr hst
  have l2' := l2 w.drawn
  have hbytes : i.bytes ≤ 1024 := by rw [hi.eq] at hby; exact hby
  have hfit48 : ∀ {sl sc m : Nat}, sl + m ≤ lim → ¬ sl + m ≤ sc → Builtin.nextslicecap (sl + m) sc * i.bytes ≤ 281474976710656 := by
    intro sl sc m hl hf
    refine growslice_fits (by omega) ?_
    have : (sl + m) * i.bytes ≤ lim * 1024 := Nat.mul_le_mul hl hbytes
    unfold lim at this; omega
  have h63 : ∀ {n : Nat}, n ≤ lim → ((n : Nat) : Int) ≤ 9223372036854775807 := by intro n hn; unfold lim at hn; omega
  -- a new row
  have more : ∀ (olds : List Value) (base : Option Addr) (sc : Nat), ¬ xs.length + ys.length ≤ sc → RepL (Imm H w) w (flat xs) olds → (∀ u ∈ olds, u.oneCell' = true) → (∀ q ∈ xs, q.cells.length = sz) →
      (∀ k, (Builtin.firstCells i.size xs.length (.slice base xs.length sc)).run P { w with drawn := k } = .ok olds.toArray { w with drawn := k }) →
      ∃ u w', (Builtin.append_ #[ts, tx] ty #[.slice base xs.length sc, xV]).run P w = .ok u w' ∧ ∃ b cap, xs.length + ys.length ≤ cap ∧ H b = none ∧
        Rep (Imm (H.upd b (.row e sz cap (xs ++ ys))) w') w' (.mlist b (xs ++ ys).length cap) u ∧ St G (H.upd b (.row e sz cap (xs ++ ys))) w' ∧ Evo H w (H.upd b (.row e sz cap (xs ++ ys))) w' := by
    intro olds base sc hf hr h1c hxz hfc
    have hrun := run_append_more (ty := ty) (w := w) hu h2 h3 hi.info hi.zero l1 (by rw [hisz]; exact l2) hfc hf (h63 hlim) (hfit48 hlim hf)
    have hge := grownCap_ge w (xs.length + ys.length) sc e
    generalize hcap : grownCap w (xs.length + ys.length) sc e = cap at hrun hge
    refine ⟨_, _, hrun, w.heap.size, cap, hge, hst.fresh (Nat.le_refl _), ?_, ?_⟩
    · rw [List.length_append]; exact .mlist _ _ _
    · have hst' : St G H w.drew := hst.evo (w' := w.drew) ⟨rfl, rfl, rfl, Nat.le_refl _, fun b h => ⟨h.2, rfl⟩⟩ fun b o e => rfl
      have hev : Evo H w (H.upd w.heap.size (.row e sz cap (xs ++ ys))) (w.drew.alloc (.cells (olds ++ vs ++ (Builtin.zeroCells z.cells (cap - (xs.length + ys.length))).toList).toArray e)) :=
        (Evo.trans (H1 := H) (w1 := w.drew) ⟨rfl, rfl, rfl, Nat.le_refl _, fun b h => ⟨h.2, rfl⟩⟩ (evo_new hst'))
      refine ⟨hst'.new ⟨olds ++ vs, (Builtin.zeroCells z.cells (cap - (xs.length + ys.length))).toList, ?_, ?_, ?_, ?_, ?_, ?_⟩, hev⟩
      · exact World.alloc_heap_new _ _
      · rw [flat_append]; exact (hev.repL hr).append (hev.repL l3)
      · intro q hq
        rcases List.mem_append.1 hq with h | h
        · exact hxz q h
        · exact hyz q h
      · intro u hu'
        rcases List.mem_append.1 hu' with h | h
        · exact h1c u h
        · exact l4 u h
      · rw [Array.length_toList, zeroCells_size, hi.zsize, hisz, List.length_append, ← Nat.add_mul]
        congr 1; omega
      · simpa using hge
  rcases hs with ⟨rfl, rfl⟩ | ⟨b, cap, rfl, hb, hne⟩
  · cases hsr with
    | nil0 a =>
      by_cases hy : ys = []
      · subst hy
        have l2'' : (Builtin.firstCells sz 0 xV).run P w = .ok vs.toArray w := l2'
        have hv : vs = [] := List.eq_nil_of_length_eq_zero (by simpa using l5)
        subst hv
        have := run_append_fit (ty := ty) (w := w) (base := a) (sl := 0) (sc := 0) (w' := w) hu h2 h3 l1 hsz l2'' (by simp) (fun q hq => by simp [storeCells]) (fun _ => rfl)
        exact ⟨_, w, this, .inl ⟨rfl, rfl, .nil0 _, hst, Evo.refl _ _⟩⟩
      · have hpos : ¬ (([] : List AV).length + ys.length ≤ 0) := by
          have := List.length_pos_iff.2 hy; simp; omega
        obtain ⟨u, w', e1, b, cap, e2, e3, e4, e5, e6⟩ := more [] a 0 hpos .nil (by simp) (by simp) (fun k => by
          cases a with
          | none => rfl
          | some a => simpa [Builtin.firstCells] using run_loadCells_list (P := P) (w := { w with drawn := k }) a [] (by simp))
        exact ⟨u, w', e1, .inr ⟨b, cap, e2, .inl e3, e4, e5, e6⟩⟩
  · cases hsr with
    | mlist b n cap =>
      obtain ⟨us, rest, f1, f2, f3, f4, f5, f6⟩ := hst.obj _ _ hb
      have hul : us.length = xs.length * sz := by rw [← f2.length, flat_length f3]
      by_cases hfit : xs.length + ys.length ≤ cap
      · -- in place
        have hmul : xs.length * sz + ys.length * sz ≤ cap * sz := by rw [← Nat.add_mul]; exact Nat.mul_le_mul_right _ hfit
        have hle : xs.length * sz + vs.length ≤ (us ++ rest).toArray.size := by simp; omega
        have hrun := run_storeCells (P := P) vs 0 (xs.length * sz) (us ++ rest).toArray w f1 (by simpa using hle) l4
        rw [set_range hle] at hrun
        have happ := run_append_fit (ty := ty) (base := some ⟨b, 0, none⟩) (sl := xs.length) (sc := cap) hu h2 h3 l1 hsz l2' hfit (fun q hq => by cases hq; rw [add_plain, Nat.zero_add]; exact hrun) (fun h => by cases h)
        have hlt := (Array.getElem?_eq_some_iff.1 f1).1
        have hev : Evo H w (H.upd b (.row e sz cap (xs ++ ys))) (w.putObj b (.cells ((us ++ rest).toArray.toList.take (xs.length * sz) ++ vs ++ (us ++ rest).toArray.toList.drop (xs.length * sz + vs.length)).toArray e (0, 0))) :=
          evo_set rfl rfl rfl (by simp) (fun k hk => World.putObj_heap_other hk) (by simp [hb])
        refine ⟨_, _, happ, .inr ⟨b, cap, hfit, .inr rfl, ?_, ?_⟩⟩
        · rw [List.length_append]; exact .mlist _ _ _
        · refine St.put_cells hst (by simp [hb]) ⟨us ++ vs, rest.drop vs.length, ?_, ?_, ?_, ?_, ?_, ?_⟩
          · rw [World.putObj_heap_same hlt]
            simp only [List.take_append_of_le_length (show xs.length * sz ≤ us.length by omega)]
            rw [← hul, List.take_length, List.drop_length_add_append, List.append_assoc]
          · rw [flat_append]; exact (hev.repL f2).append (hev.repL l3)
          · intro q hq
            rcases List.mem_append.1 hq with h | h
            · exact f3 q h
            · exact hyz q h
          · intro u hu'
            rcases List.mem_append.1 hu' with h | h
            · exact f4 u h
            · exact l4 u h
          · rw [List.length_drop, List.length_append, Nat.add_mul]; omega
          · simpa using hfit
      · obtain ⟨u, w', e1, b', cap', e2, e3, e4, e5, e6⟩ := more us (some ⟨b, 0, none⟩) cap hfit f2 f4 f3 (fun k => by
          have := run_loadCells_list (P := P) (w := { w with drawn := k }) ⟨b, 0, none⟩ us (fun i v hi => by
            rw [add_plain, cell_block (w := { w with drawn := k }) (b := b) f1]
            have hlt := (List.getElem?_eq_some_iff.1 hi).1
            rw [List.getElem?_toArray, List.getElem?_append_left (by omega)]
            simpa using hi)
          rw [hul] at this
          simpa [Builtin.firstCells, hisz] using this)
        exact ⟨u, w', e1, .inr ⟨b', cap', e2, .inl e3, e4, e5, e6⟩⟩
end
end Go.V
