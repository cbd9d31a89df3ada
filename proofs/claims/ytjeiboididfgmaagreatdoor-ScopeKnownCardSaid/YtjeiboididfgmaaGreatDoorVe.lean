/- The calculus of operations, regions and functions over abstract states. No condition. -/
import Derived.Test.YtjeiboididfgmaaGreatDoorVd
import Derived.Maps.RangeRun
set_option linter.unusedVariables false
set_option linter.unusedSimpArgs false
namespace Go.V
open Go

def isMut (M : List Nat) : Option Nat → Bool
  | some d => M.contains d
  | none => false

def vappend (P : Program) (H : HM) (ts tx : Nat) (s x : AV) (K : ARes → HM → Prop) : Prop :=
  match tdAt P ts with
  | some (.slice e sz) => (match tdAt P tx with | some (.int _) => False | some .other => False | some _ => True | none => False) ∧
    match tiOf P e, srcOf H x with
    | some ei, some ys => ei.bytes ≤ 1024 ∧ (∀ y ∈ ys, y.cells.length = sz) ∧
      match s with
      | .nil0 => ys.length ≤ lim ∧ (ys = [] → K (.ret .nil0) H) ∧ ∀ b cap, H b = none → ys.length ≤ cap → K (.ret (.mlist b ys.length cap)) (H.upd b (.row e sz cap ys))
      | .mlist b n cap => match H b with
        | some (.row e' sz' cap0 xs) => e = e' ∧ sz = sz' ∧ cap = cap0 ∧ n = xs.length ∧ x ≠ s ∧ xs.length + ys.length ≤ lim ∧
          ∀ b' cap', (H b' = none ∨ (b' = b ∧ cap' = cap)) → xs.length + ys.length ≤ cap' → K (.ret (.mlist b' (xs ++ ys).length cap')) (H.upd b' (.row e sz cap' (xs ++ ys)))
        | _ => False
      | _ => False
    | _, _ => False
  | _ => False

/-- Is the result of this append seen as memory that nobody will write? -/
def isImm (M : List Nat) : Option Nat → Bool
  | some d => M.contains (d + 1000000)
  | none => false
/-- append to nil, the result by value. -/
def vappendI (P : Program) (H : HM) (ts tx : Nat) (s x : AV) (K : ARes → HM → Prop) : Prop :=
  match tdAt P ts with
  | some (.slice e sz) => (match tdAt P tx with | some (.int _) => False | some .other => False | some _ => True | none => False) ∧
    match tiOf P e, srcOf H x with
    | some ei, some ys => ei.bytes ≤ 1024 ∧ (∀ y ∈ ys, y.cells.length = sz) ∧ s = .nil0 ∧ ys.length ≤ lim ∧ K (.ret (.list ys)) H
    | _, _ => False
  | _ => False
/-- copy to a row of one's own that is no longer than the source. -/
def vcopy (P : Program) (H : HM) (td : Nat) (d x : AV) (K : ARes → HM → Prop) : Prop :=
  match tdAt P td with
  | some (.slice _ sz) => match d, x with
    | .nil0, .list _ => K (.ret (.int 0)) H
    | .mlist b n cap, .list ys => match H b with
      | some (.row e sz' cap' xs) => sz = sz' ∧ n = xs.length ∧ xs.length ≤ ys.length ∧ (∀ y ∈ ys, y.cells.length = sz) ∧ K (.ret (.int n)) (H.upd b (.row e sz' cap' (ys.take n)))
      | _ => False
    | _, _ => False
  | _ => False
/-- One operation's weakest precondition, computed. -/
def vx (P : Program) (G : GT) (M : List Nat) (ρ : Operand → AV) (H : HM) (o : Oper) (K : ARes → HM → Prop) : Prop :=
  match o.op with
  | .box t x => (ρ x).one = true ∧ (if isMut M o.dst then ∀ b, H b = none → K (.ret (.addr b 0)) (H.upd b (.cells t (ρ x).cells)) else K (.ret (.ref (ρ x).cells)) H)
  | .alloc t => match tiOf P t with
    | some ti => ti.zero.one = true ∧ ∀ b, H b = none → K (.ret (.addr b 0)) (H.upd b (.cells t ti.zero.cells))
    | none => False
  | .store t a x => match tiOf P t, ρ a with
    | some ti, .addr b off => match H b with
      | some (.cells et cs) => ((ρ x).cells.length = ti.size ∧ off + ti.size ≤ cs.length ∧ (ρ x).one = true) ∧ K (.ret .unit) (H.upd b (.cells et (splice cs off (ρ x).cells)))
      | _ => False
    | some ti, .elem b i sz off => match H b with
      | some (.row et sz' cap xs) => sz = sz' ∧ (ρ x).cells.length = ti.size ∧ (ρ x).one = true ∧
        match xs[i]? with
        | some x0 => match elemPut x0 off (ρ x) sz with
          | some v' => K (.ret .unit) (H.upd b (.row et sz cap (xs.set i v')))
          | none => False
        | none => False
      | _ => False
    | _, _ => False
  | .buildSlice t len parts => match tdAt P t with
    | some (.slice e sz) => if len = 0 then parts.toList = [] ∧ K (.ret .nil0) H else
        parts.toList.map (·.1) = List.range len ∧ (∀ p ∈ parts.toList, (ρ p.2).cells.length = sz ∧ (ρ p.2).one = true) ∧ sz ≠ 0 ∧ len * sz ≤ 16777216 ∧ (tiOf P e).isSome = true ∧ K (.ret (.list (parts.toList.map fun p => ρ p.2))) H
    | _ => False
  | .makeMap t none => ∀ b, H b = none → K (.ret (.map b)) (H.upd b (.map []))
  | .mapUpdate t m k x | .insert t m k x => match tdAt P t, ρ m, keyOf (ρ k) with
    | some (.map kt et), .map b, some key => match tdAt P kt, H b with
      | some kd, some (.map es) => keyFits kd key = true ∧ keysOk kd es = true ∧ K (.ret .unit) (H.upd b (.map (assocSet key (ρ x) es)))
      | _, _ => False
    | _, _, _ => False
  | .call c => match c.callee with
    | .value f => CallV P G (ρ f) (c.args.toList.map ρ) H K
    | .builtin .append => match c.args.toList, c.argTypes.toList with
      | [s, x], [ts, tx] => if isImm M o.dst then vappendI P H ts tx (ρ s) (ρ x) K else vappend P H ts tx (ρ s) (ρ x) K
      | _, _ => False
    | .builtin .copy => match c.args.toList, c.argTypes.toList with
      | [d, x], [td, _] => vcopy P H td (ρ d) (ρ x) K
      | _, _ => False
    | _ => match vval P ρ H o with
      | some v => K (.ret v) H
      | none => False
  | .panic x => match ρ x with
    | .iface t v => K (.pan (.iface t v)) H
    | _ => False
  | .range t x => match tdAt P t, ρ x with
    | some .str, .val (.string s) => ∀ b, H b = none → K (.ret (.addr b 0)) (H.upd b (.siter s 0))
    | some (.map _ _), .imap es => ∀ b, H b = none → K (.ret (.addr b 0)) (H.upd b (.miter es []))
    | _, _ => False
  | .next x isS => match ρ x with
    | .addr b 0 => match H b, isS with
      | some (.siter s pos), true => (pos < s.size → K (.ret (.tup [.bool true, .int pos, .val (.int .i32 (Utf8.decode s pos).1)])) (H.upd b (.siter s (pos + (Utf8.decode s pos).2)))) ∧
          (¬ pos < s.size → K (.ret (.tup [.bool false])) H)
      | some (.miter es seen), false => ((∀ j, j < es.length → j ∈ seen) → K (.ret (.tup [.bool false])) H) ∧
          ∀ j e, es[j]? = some e → j ∉ seen → K (.ret (.tup [.bool true, e.1, e.2])) (H.upd b (.miter es (seen ++ [j])))
      | _, _ => False
    | _ => False
  | .entry x => match ρ x with
    | .addr b 0 => match H b with
      | some (.miter es seen) => ∃ j e, seen.getLast? = some j ∧ es[j]? = some e ∧ K (.ret (.tup [e.1, e.2])) H
      | _ => False
    | _ => False
  | _ => match vval P ρ H o with
    | some v => K (.ret v) H
    | none => False

section
variable {P : Program} {G : GT} {M : List Nat} {ρ : Operand → AV} {H : HM} {o : Oper} {K : ARes → HM → Prop}

theorem vx_val {v : AV} (hv : vval P ρ H o = some v) (hk : K (.ret v) H) : VX P G ρ H o K := vval_quiet hv K hk

theorem new_row_imm {w : World} {e sz : Nat} {xs : List AV} {vs : List Value} (hr : RepL (Imm H w) w (flat xs) vs) (h1 : ∀ u ∈ vs, u.oneCell' = true) (hz : ∀ x ∈ xs, x.cells.length = sz) (hl : xs.length ≤ lim) (hst : St G H w) :
    let w' : World := { w with heap := w.heap.push (.cells vs.toArray e (0, 0)) }
    St G H w' ∧ Evo H w H w' ∧ Rep (Imm H w') w' (.list xs) (.slice (some ⟨w.heap.size, 0, none⟩) xs.length xs.length) := by
  obtain ⟨a1, a2, a3, a4, a5⟩ := new_imm (et := e) hr h1 hst
  exact ⟨a1, a2, .list (ad := ⟨w.heap.size, 0, none⟩) (fun _ => a3) rfl hz a5 h1 (Nat.le_refl _) hl a4⟩

theorem fill_seq {sz : Nat} : ∀ (ps : List (Nat × Value)) (k : Nat) (cells : Array Value), ps.map (·.1) = List.range' k ps.length → (∀ p ∈ ps, p.2.cells.size = sz) → cells.size = (k + ps.length) * sz →
    Instr.fill (fun i => some (i * sz, sz)) cells ps = some (cells.toList.take (k * sz) ++ ps.flatMap (·.2.cells.toList)).toArray
  | [], k, cells, _, _, h => by
    simp only [Instr.fill, List.flatMap_nil, List.append_nil]
    rw [List.take_of_length_le (by simp at h; simp; omega)]
  | (i, x) :: ps, k, cells, hm, hz, h => by
    simp only [List.map_cons, List.length_cons, List.range'_succ, List.cons.injEq] at hm
    obtain ⟨rfl, hm⟩ := hm
    have hx := hz (i, x) (by simp)
    simp only at hx
    have hsz : cells.size = i * sz + sz + ps.length * sz := by rw [h, List.length_cons, Nat.add_mul, Nat.succ_mul]; omega
    have hle : i * sz + x.cells.toList.length ≤ cells.size := by simp; omega
    have hset : (x.cells.zipIdx.foldl (fun cs (c, j) => cs.setIfInBounds (i * sz + j) c) cells) = (cells.toList.take (i * sz) ++ x.cells.toList ++ cells.toList.drop (i * sz + x.cells.toList.length)).toArray := by
      rw [← set_range hle, ← Array.foldl_toList, Array.toList_zipIdx]
    unfold Instr.fill
    simp only
    rw [if_neg (by simp; omega), hset]
    have ih := fill_seq ps (i + 1) (cells.toList.take (i * sz) ++ x.cells.toList ++ cells.toList.drop (i * sz + x.cells.toList.length)).toArray hm (fun p hp => hz p (by simp [hp])) (by
      simp only [List.size_toArray, List.length_append, List.length_take, List.length_drop, Array.length_toList]
      rw [Nat.add_mul, Nat.add_mul]; omega)
    rw [ih]
    have e : (cells.toList.take (i * sz) ++ x.cells.toList ++ cells.toList.drop (i * sz + x.cells.toList.length)).take ((i + 1) * sz) = cells.toList.take (i * sz) ++ x.cells.toList := by
      rw [List.take_left' (by simp; rw [Nat.succ_mul]; omega)]
    simp only [List.append_assoc] at e
    simp only [List.append_assoc, e, List.flatMap_cons]

theorem vx_sound (h : vx P G M ρ H o K) : VX P G ρ H o K := by
  unfold vx at h
  split at h
  · -- box
    rename_i t x hop
    intro ρc w ho hst
    have hx := ho x (by simp [hop, Op.operands])
    simp only [execOp, hop, Instr.box, Sem.run_bind, run_newVar, Result.andThen, Sem.run_pure, NUpon]
    have h1 := hx.one h.1
    have e : (ρc x).cells = (ρc x).cells.toList.toArray := by simp
    rw [e]
    have h2 := h.2
    split at h2
    · obtain ⟨a1, a2⟩ := new_cells (et := t) hx.cells h1 hst
      exact ⟨_, _, h2 _ (hst.fresh (Nat.le_refl _)), .addr _ _, a1, a2⟩
    · obtain ⟨a1, a2, a3, a4, a5⟩ := new_imm (et := t) hx.cells h1 hst
      exact ⟨_, _, h2, .ref (fun _ => a3) rfl a5 h1 a4, a1, a2⟩
  · -- alloc
    rename_i t hop
    split at h
    · rename_i ti ht
      obtain ⟨i, d, z, hi⟩ := tiOf_some ht
      intro ρc w ho hst
      have hz : Rep (Imm H w) w ti.zero z := by rw [hi.eq]; exact rep_cst hi.ok
      simp only [execOp, hop, Instr.alloc, Sem.run_bind, run_zeroValue' hi, run_newVar, Result.andThen, Sem.run_pure, NUpon]
      have e : z.cells = z.cells.toList.toArray := by simp
      rw [e]
      obtain ⟨a1, a2⟩ := new_cells (et := t) hz.cells (hz.one h.1) hst
      exact ⟨_, _, h.2 _ (hst.fresh (Nat.le_refl _)), .addr _ _, a1, a2⟩
    · exact h.elim
  · -- store
    rename_i t a x hop
    split at h
    · rename_i ti b off ht ha
      split at h
      · rename_i et cs hb
        intro ρc w ho hst
        have hx := ho x (by simp [hop, Op.operands])
        have har := ho a (by simp [hop, Op.operands])
        rw [ha] at har
        generalize hp : ρc a = p at har
        cases har
        obtain ⟨w', e1, e2, e3⟩ := store_cells (a := .unit) (av := undef) ht hb hx h.1.1 h.1.2.1 h.1.2.2 hst
        simp only [execOp, hop, hp, Sem.run_bind, e1, Result.andThen, Sem.run_pure, NUpon]
        exact ⟨_, _, h.2, rep_undef _ _, e2, e3⟩
      · exact h.elim
    · rename_i ti b i sz off ht ha
      split at h
      · rename_i et sz' cap xs hb
        obtain ⟨rfl, h1, h2, h3⟩ := h
        split at h3
        · rename_i x0 hx0
          split at h3
          · rename_i v' hv'
            intro ρc w ho hst
            have hx := ho x (by simp [hop, Op.operands])
            have har := ho a (by simp [hop, Op.operands])
            rw [ha] at har
            generalize hp : ρc a = p at har
            cases har
            obtain ⟨w', e1, e2, e3⟩ := store_elem ht hb hx0 hv' hx h1 h2 hst
            simp only [execOp, hop, hp, Sem.run_bind, e1, Result.andThen, Sem.run_pure, NUpon]
            exact ⟨_, _, h3, rep_undef _ _, e2, e3⟩
          · exact h3.elim
        · exact h3.elim
      · exact h.elim
    · exact h.elim
  · -- buildSlice
    rename_i t len parts hop
    split at h
    · rename_i e sz ht
      intro ρc w ho hst
      obtain ⟨hu, hsz⟩ := slice_info (w := w) ht
      split at h
      · rename_i hl
        subst hl
        obtain ⟨hp, hk⟩ := h
        have hp' : (parts.map fun (i, x) => (i, ρc x)).toList = [] := by simp [hp]
        simp only [execOp, hop, Instr.buildSlice, Sem.run_bind, run_underlying hu, Result.andThen, hsz, Nat.zero_mul, Sem.run_ite, if_true, Sem.run_pure, hp', Instr.fill, newRow, run_newObj]
        rw [if_neg (by omega)]
        simp only [NUpon]
        exact ⟨_, _, hk, .nil0 _, hst.push _, evo_push _ _ _⟩
      · rename_i hl
        obtain ⟨h1, h2, h3, h4, h5, hk⟩ := h
        have hlen : parts.toList.length = len := by have := congrArg List.length h1; simpa using this
        have hpos : len * sz ≠ 0 := by simp only [ne_eq, Nat.mul_eq_zero]; omega
        have hz : ∃ z : Value, (zeroValue e).run P w = .ok z w := by
          obtain ⟨ei, hei⟩ := Option.isSome_iff_exists.1 h5
          obtain ⟨ii, dd, zz, hii⟩ := tiOf_some hei
          exact ⟨zz, run_zeroValue' hii⟩
        obtain ⟨z, hz⟩ := hz
        have hps : (parts.map fun (i, x) => (i, ρc x)).toList = parts.toList.map fun (i, x) => (i, ρc x) := by simp
        have hvals : ∀ p ∈ parts.toList, Rep (Imm H w) w (ρ p.2) (ρc p.2) := fun p hp => ho p.2 (by
          simp only [hop, Op.operands, List.mem_toArray, List.mem_map]; exact ⟨p, hp, rfl⟩)
        have hsize : ((Array.range (len * sz)).map (z.cells[· % z.cells.size]!)).size = (0 + (parts.toList.map fun (i, x) => (i, ρc x)).length) * sz := by
          simp [hlen]
        have hfill := fill_seq (sz := sz) (parts.toList.map fun (i, x) => (i, ρc x)) 0 ((Array.range (len * sz)).map (z.cells[· % z.cells.size]!)) (by
          rw [List.map_map, List.length_map, hlen]
          have : (fun x : Nat × Value => x.1) ∘ (fun x : Nat × Operand => (x.1, ρc x.2)) = fun p : Nat × Operand => p.1 := rfl
          rw [← List.range_eq_range']
          exact h1) (by
          intro p hp
          obtain ⟨q, hq, rfl⟩ := List.mem_map.1 hp
          have := (hvals q hq).size
          simp only
          rw [← this]; exact (h2 q hq).1) hsize
        rw [Nat.zero_mul, List.take_zero, List.nil_append] at hfill
        have hrep : RepL (Imm H w) w (flat (parts.toList.map fun p => ρ p.2)) ((parts.toList.map fun (i, x) => (i, ρc x)).flatMap (·.2.cells.toList)) := by
          generalize parts.toList = l at hvals
          clear h1 h2 hlen hps hsize hfill
          induction l with
          | nil => exact .nil
          | cons p l ih =>
            rw [List.map_cons, List.map_cons, flat_cons, List.flatMap_cons]
            exact (hvals p (by simp)).cells.append (ih fun q hq => hvals q (by simp [hq]))
        have hone : ∀ u ∈ ((parts.toList.map fun (i, x) => (i, ρc x)).flatMap (·.2.cells.toList)), u.oneCell' = true := by
          intro u hu'
          simp only [List.mem_flatMap, List.mem_map] at hu'
          obtain ⟨p, ⟨q, hq, rfl⟩, hu'⟩ := hu'
          exact (hvals q hq).one (h2 q hq).2 u hu'
        have hel : ∀ x ∈ parts.toList.map fun p => ρ p.2, x.cells.length = sz := by
          intro x hx
          obtain ⟨p, hp, rfl⟩ := List.mem_map.1 hx
          exact (h2 p hp).1
        obtain ⟨a1, a2, a3⟩ := new_row_imm (e := e) hrep hone hel (by
          rw [List.length_map, hlen]
          have : len ≤ len * sz := Nat.le_mul_of_pos_right _ (by omega)
          unfold lim; omega) hst
        rw [List.length_map, hlen] at a3
        simp only [execOp, hop, Instr.buildSlice, Sem.run_bind, run_underlying hu, Result.andThen, hsz, Sem.run_ite, hpos, if_false, hz, Sem.run_pure, hps, hfill, newRow, run_newObj]
        rw [if_neg (by omega)]
        simp only [NUpon]
        exact ⟨_, _, hk, a3, a1, a2⟩
    · exact h.elim
  · -- makeMap
    rename_i t hop
    intro ρc w ho hst
    simp only [execOp, hop, Instr.makeMap, Option.map_none, Sem.run_bind, run_newObj, Result.andThen, Sem.run_pure, NUpon]
    refine ⟨_, _, h _ (hst.fresh (Nat.le_refl _)), .map _, ?_, evo_new hst⟩
    exact hst.new ⟨#[], 0, by simp, .nil, .nil, by simp, by simp⟩
  · rename_i t m k x hop
    split at h
    · rename_i kt et b key h1 h2 h3
      split at h
      · rename_i kd es h4 hb
        intro ρc w ho hst
        have hm := ho m (by simp [hop, Op.operands])
        rw [h2] at hm
        generalize hp : ρc m = p at hm
        cases hm
        obtain ⟨w', e1, e2, e3⟩ := map_set h1 h4 hb h3 h.1 h.2.1 (ho k (by simp [hop, Op.operands])) (ho x (by simp [hop, Op.operands])) hst
        simp only [execOp, hop, hp, Sem.run_bind, e1, Result.andThen, Sem.run_pure, NUpon]
        exact ⟨_, _, h.2.2, rep_undef _ _, e2, e3⟩
      · exact h.elim
    · exact h.elim
  · rename_i t m k x hop
    split at h
    · rename_i kt et b key h1 h2 h3
      split at h
      · rename_i kd es h4 hb
        intro ρc w ho hst
        have hm := ho m (by simp [hop, Op.operands])
        rw [h2] at hm
        generalize hp : ρc m = p at hm
        cases hm
        obtain ⟨w', e1, e2, e3⟩ := map_set h1 h4 hb h3 h.1 h.2.1 (ho k (by simp [hop, Op.operands])) (ho x (by simp [hop, Op.operands])) hst
        simp only [execOp, hop, hp, Sem.run_bind, e1, Result.andThen, Sem.run_pure, NUpon]
        exact ⟨_, _, h.2.2, rep_undef _ _, e2, e3⟩
      · exact h.elim
    · exact h.elim
  · -- call
    rename_i c hop
    split at h
    · rename_i f hf
      intro ρc w ho hst
      have mem : ∀ x ∈ c.args.toList, Rep (Imm H w) w (ρ x) (ρc x) := fun x hx => ho x (by simp [hop, Op.operands, Call.operands]; exact .inr (by simpa using hx))
      have hfr := ho f (by simp [hop, Op.operands, Call.operands, hf])
      have := h w (ρc f) (c.args.toList.map ρc) hfr (RepL.map_ ρ ρc _ mem) hst
      have e : (c.args.toList.map ρc).toArray = c.args.map ρc := by rw [← Array.toList_map, Array.toArray_toList]
      rw [e] at this
      simpa only [execOp, hop, resolve, hf] using this
    · rename_i hf
      split at h
      · rename_i s x ts tx hargs hts
        intro ρc w ho hst
        have mem : ∀ x ∈ c.args.toList, Rep (Imm H w) w (ρ x) (ρc x) := fun x hx => ho x (by simp [hop, Op.operands, Call.operands]; exact .inr (by simpa using hx))
        have hs := mem s (by rw [hargs]; simp)
        have hx := mem x (by rw [hargs]; simp)
        have ha : c.args.map ρc = #[ρc s, ρc x] := by rw [← @Array.toArray_toList _ (c.args.map ρc), Array.toList_map, hargs]; rfl
        have hta : c.argTypes = #[ts, tx] := by rw [← @Array.toArray_toList _ c.argTypes, hts]
        have fin : ∀ u w', (Builtin.append_ #[ts, tx] o.type #[ρc s, ρc x]).run P w = .ok u w' → (execOp ρc o).run P w = .ok (.value u) w' := by
          intro u w' hu
          simp only [execOp, hop, resolve, hf, Sem.run_bind, Sem.run_pure, Result.andThen, invoke, builtin, ha, hta, hu]
        split at h
        · unfold vappendI at h
          split at h
          · rename_i e sz hd
            obtain ⟨hxt, h⟩ := h
            obtain ⟨xd, hxd, hxn⟩ : ∃ xd, P.underlying tx = some xd ∧ ∀ k, xd ≠ .int k := by
              split at hxt
              · exact hxt.elim
              · exact hxt.elim
              · rename_i td n1 n2 htd
                obtain ⟨ti, i, dd, z, hi, hdd⟩ := tdAt_some htd
                refine ⟨dd, hi.und, fun k e => ?_⟩
                subst e
                simp only [tdOf] at hdd
                exact n1 k hdd.symm
              · exact hxt.elim
            split at h
            · rename_i ei ys hei hys
              obtain ⟨hby, hyz, hsn, hl, hK⟩ := h
              rw [hsn] at hs
              obtain ⟨u, w', e1, hc⟩ := append_own (ty := o.type) (xs := []) hd hxd hxn hei hby hys hyz (.inl ⟨rfl, rfl⟩) (by simpa using hl) hs hx hst
              rw [fin _ _ e1]
              rcases hc with ⟨c1, c2, c3, c4, c5⟩ | ⟨b, cap, c1, c2, c3, c4, c5⟩
              · refine ⟨_, _, hK, ?_, c4, c5⟩
                rw [c1]
                cases c3
                exact .nil _ _
              · have hbn : H b = none := c2.resolve_right (by simp)
                have hd0 : ∀ k, H k = none ∨ H k = (H.upd b (.row e sz cap ([] ++ ys))) k := fun k => by
                  by_cases hk : k = b
                  · subst hk; exact .inl hbn
                  · exact .inr (HM.upd_ne _ _ hk).symm
                have hI : ∀ k, Imm (H.upd b (.row e sz cap ([] ++ ys))) w' k → Imm H w' k := fun k hk => ⟨hk.1, (hd0 k).elim id fun q => q.trans hk.2⟩
                refine ⟨_, _, hK, ?_, c4.drop hd0, c5.drop hd0⟩
                cases c3
                obtain ⟨vs, rest, q1, q2, q3, q4, q5, q6⟩ := c4.obj _ _ (HM.upd_same _ _ _)
                have hlt := (Array.getElem?_eq_some_iff.1 q1).1
                simp only [List.nil_append] at q2 q3 q5 q6 ⊢
                refine .list (ad := ⟨b, 0, none⟩) (fun _ => ⟨hlt, hbn⟩) rfl q3 (fun i v hi => ?_) q4 q6 hl (q2.keep hI fun _ _ => rfl)
                rw [add_plain, cell_block q1]
                have hi' := (List.getElem?_eq_some_iff.1 hi).1
                rw [List.getElem?_toArray, List.getElem?_append_left (by omega)]
                simpa using hi
            · exact h.elim
          · exact h.elim
        unfold vappend at h
        split at h
        · rename_i e sz hd
          obtain ⟨hxt, h⟩ := h
          obtain ⟨xd, hxd, hxn⟩ : ∃ xd, P.underlying tx = some xd ∧ ∀ k, xd ≠ .int k := by
            split at hxt
            · exact hxt.elim
            · exact hxt.elim
            · rename_i td n1 n2 htd
              obtain ⟨ti, i, dd, z, hi, hdd⟩ := tdAt_some htd
              refine ⟨dd, hi.und, fun k e => ?_⟩
              subst e
              simp only [tdOf] at hdd
              exact n1 k hdd.symm
            · exact hxt.elim
          split at h
          · rename_i ei ys hei hys
            obtain ⟨hby, hyz, h⟩ := h
            split at h
            · rename_i hsn
              rw [hsn] at hs
              obtain ⟨hl, h1, h2⟩ := h
              obtain ⟨u, w', e1, hc⟩ := append_own (ty := o.type) (xs := []) hd hxd hxn hei hby hys hyz (.inl ⟨rfl, rfl⟩) (by simpa using hl) hs hx hst
              rw [fin _ _ e1]
              rcases hc with ⟨c1, c2, c3, c4, c5⟩ | ⟨b, cap, c1, c2, c3, c4, c5⟩
              · exact ⟨_, _, h1 c1, c3, c4, c5⟩
              · refine ⟨_, _, h2 b cap (c2.resolve_right (by simp)) (by simpa using c1), ?_, ?_, ?_⟩
                · simpa using c3
                · simpa using c4
                · simpa using c5
            · rename_i b n cap hsn
              split at h
              · rename_i e' sz' cap0 xs hb
                obtain ⟨rfl, rfl, rfl, rfl, hne, hl, h2⟩ := h
                rw [hsn] at hs hne
                obtain ⟨u, w', e1, hc⟩ := append_own (ty := o.type) (xs := xs) hd hxd hxn hei hby hys hyz (.inr ⟨b, cap, rfl, hb, hne⟩) hl hs hx hst
                rw [fin _ _ e1]
                rcases hc with ⟨c1, c2, c3, c4, c5⟩ | ⟨b', cap', c1, c2, c3, c4, c5⟩
                · cases c2
                · refine ⟨_, _, h2 b' cap' (c2.imp id fun q => ?_) c1, c3, c4, c5⟩
                  injection q with q1 q2 q3
                  exact ⟨q1.symm, q3.symm⟩
              · exact h.elim
            · exact h.elim
          · exact h.elim
        · exact h.elim
      · exact h.elim
    · rename_i hcal
      split at h
      · rename_i d x td tx hargs htys
        obtain ⟨cal, cargs, ctys⟩ := c
        simp only at hcal hargs htys
        have hargs' : cargs = #[d, x] := by apply Array.ext'; simpa using hargs
        have htys' : ctys = #[td, tx] := by apply Array.ext'; simpa using htys
        subst hcal hargs' htys'
        intro ρc w ho hst
        have hd := ho d (by simp [hop, Op.operands, Call.operands])
        have hx := ho x (by simp [hop, Op.operands, Call.operands])
        have fin : ∀ u w', (Builtin.copy_ #[td, tx] o.type #[ρc d, ρc x]).run P w = .ok u w' → (execOp ρc o).run P w = .ok (.value u) w' := by
          intro u w' e
          simp only [execOp, hop, resolve, Sem.run_bind, Sem.run_pure, Result.andThen, invoke, builtin]
          have e2 : Array.map ρc #[d, x] = #[ρc d, ρc x] := by simp
          rw [e2, e]
        unfold vcopy at h
        split at h
        · rename_i e sz htd
          obtain ⟨hu, hsz⟩ := slice_info htd (w := w)
          generalize hdv : ρc d = dv at hd fin
          generalize hxv : ρc x = xv at hx fin
          split at h
          · rename_i ys hdd hxx
            rw [hdd] at hd
            cases hd with
            | nil0 a =>
              rw [hxx] at hx
              have hlo : ∃ m, Builtin.lenOf xv = pure m ∧ ∃ q c, xv = .slice q m c := by
                cases hx with
                | nil a' cap => exact ⟨0, rfl, _, _, rfl⟩
                | list => exact ⟨_, rfl, _, _, rfl⟩
              obtain ⟨m, hlo, q, cp, rfl⟩ := hlo
              have hfc : (Builtin.firstCells sz 0 (.slice q m cp)).run P w = .ok #[] w := by
                cases q with
                | none => rfl
                | some a => simpa [Builtin.firstCells] using run_loadCells_list (P := P) (w := w) a [] (by simp)
              have e1 : (Builtin.copy_ #[td, tx] o.type #[.slice a 0 0, .slice q m cp]).run P w = .ok (goInt 0) w := by
                cases a with
                | none => simp [Builtin.copy_, Sem.run_bind, run_underlying hu, Result.andThen, hlo, hsz, hfc]
                | some a => simp [Builtin.copy_, Sem.run_bind, run_underlying hu, Result.andThen, hlo, hsz, hfc, storeCells]
              rw [fin _ _ e1]
              exact ⟨_, _, h, .val _ trivial, hst, Evo.refl _ _⟩
          · rename_i b n cap ys hdd hxx
            split at h
            · rename_i e' sz' cap' xs hb
              obtain ⟨rfl, rfl, hle, hz, hK⟩ := h
              rw [hdd] at hd
              rw [hxx] at hx
              cases hd
              obtain ⟨vs0, rest, q1, q2, q3, q4, q5, q6⟩ := hst.obj _ _ hb
              have hl0 := q2.length
              rw [flat_length q3] at hl0
              have src : ∃ vs, Builtin.lenOf xv = pure ys.length ∧ (Builtin.firstCells sz xs.length xv).run P w = .ok vs.toArray w ∧ RepL (Imm H w) w (flat (ys.take xs.length)) vs ∧ (∀ u ∈ vs, u.oneCell' = true) ∧ vs.length = xs.length * sz := by
                cases hx with
                | nil a cap =>
                  have : xs = [] := by simpa using hle
                  subst this
                  refine ⟨[], rfl, ?_, .nil, by simp, by simp⟩
                  cases a with
                  | none => rfl
                  | some a => simpa [Builtin.firstCells] using run_loadCells_list (P := P) (w := w) a [] (by simp)
                | list h1 h2 h3 h4 h5 h6 h7 h8 =>
                  rename_i vs ad cap sz'
                  have hl := h8.length
                  rw [flat_length hz] at hl
                  have hmul : xs.length * sz ≤ ys.length * sz := Nat.mul_le_mul_right _ hle
                  have htl : (vs.take (xs.length * sz)).length = xs.length * sz := by rw [List.length_take]; omega
                  refine ⟨vs.take (xs.length * sz), rfl, ?_, ?_, fun u hu => h5 u (List.mem_of_mem_take hu), htl⟩
                  · have := run_loadCells_list (P := P) (w := w) ad (vs.take (xs.length * sz)) (h4.take _)
                    rw [htl] at this
                    simpa [Builtin.firstCells] using this
                  · have e : flat (ys.take xs.length) = (flat ys).take (xs.length * sz) := by
                      conv => rhs; rw [← List.take_append_drop xs.length ys, flat_append]
                      rw [List.take_left' (by rw [flat_length (fun y hy => hz y (List.mem_of_mem_take hy)), List.length_take]; congr 1; omega)]
                    rw [e]; exact h8.take _
              obtain ⟨vs, s1, s2, s3, s4, s5⟩ := src
              have hoff : 0 + vs.length ≤ (vs0 ++ rest).toArray.size := by simp; omega
              have hrun := run_storeCells (P := P) vs 0 0 (vs0 ++ rest).toArray w q1 (by simpa using hoff) s4
              rw [set_range hoff] at hrun
              have hmin : Nat.min ys.length xs.length = xs.length := Nat.min_eq_right hle
              have e1 : (Builtin.copy_ #[td, tx] o.type #[.slice (some ⟨b, 0, none⟩) xs.length cap, xv]).run P w = .ok (goInt xs.length) (w.putObj b (.cells ((vs0 ++ rest).toArray.toList.take 0 ++ vs ++ (vs0 ++ rest).toArray.toList.drop (0 + vs.length)).toArray e' (0, 0))) := by
                simp only [List.take_zero, List.nil_append, Nat.zero_add] at hrun
                simp [Builtin.copy_, Sem.run_bind, run_underlying hu, Result.andThen, s1, hsz, hmin, s2, hrun]
              rw [fin _ _ e1]
              have hlt := (Array.getElem?_eq_some_iff.1 q1).1
              have hdrop : (vs0 ++ rest).toArray.toList.drop (0 + vs.length) = rest := by
                simp only [Nat.zero_add]
                rw [List.drop_left' (by omega)]
              rw [hdrop]
              have he : Evo H w (H.upd b (.row e' sz cap' (ys.take xs.length))) (w.putObj b (.cells ((vs0 ++ rest).toArray.toList.take 0 ++ vs ++ rest).toArray e' (0, 0))) := evo_set rfl rfl rfl (by simp) (fun k hk => World.putObj_heap_other hk) (by simp [hb])
              have htk : (ys.take xs.length).length = xs.length := by rw [List.length_take]; omega
              refine ⟨_, _, hK, .val _ trivial, (St.put_cells hst (by simp [hb]) (show RepO _ _ _ (.row e' sz cap' (ys.take xs.length)) from ⟨vs, rest, ?_, he.repL s3, fun y hy => hz y (List.mem_of_mem_take hy), s4, by rw [htk]; exact q5, by rw [htk]; exact q6⟩)).1, he⟩
              simpa using World.putObj_heap_same (w := w) hlt
            · exact h.elim
          · exact h.elim
        · exact h.elim
      · exact h.elim
    · split at h
      · exact vx_val ‹_› h
      · exact h.elim
  · -- panic
    rename_i x hop
    split at h
    · rename_i t v hx
      intro ρc w ho hst
      have hr := ho x (by simp [hop, Op.operands])
      rw [hx] at hr
      generalize hp : ρc x = p at hr
      cases hr with
      | iface hv =>
        simp only [execOp, hop, hp, Instr.panic, Sem.run_bind, run_goPanic, Result.andThen, NUpon]
        exact ⟨_, _, h, .iface hv, hst, Evo.refl _ _⟩
    · exact h.elim
  · -- range
    rename_i t x hop
    split at h
    · rename_i s ht hx
      intro ρc w ho hst
      have hr := ho x (by simp [hop, Op.operands])
      rw [hx] at hr
      simp only [execOp, hop, hr.val_eq, Instr.range, Sem.run_bind, run_underlying' (td_str ht), Result.andThen, Sem.run_pure, run_newObj, NUpon]
      exact ⟨_, _, h _ (hst.fresh (Nat.le_refl _)), .addr _ _, hst.new (show RepO _ _ _ (.siter s 0) from by simp [RepO]), evo_new hst⟩
    · rename_i k e es ht hx
      intro ρc w ho hst
      have hr := ho x (by simp [hop, Op.operands])
      rw [hx] at hr
      generalize hp : ρc x = p at hr
      cases hr with
      | imap h1 h2 h0 h3 h4 =>
        simp only [execOp, hop, hp, Instr.range, Sem.run_bind, run_underlying' (td_map ht), Result.andThen, Sem.run_pure, run_getMap h2, run_newObj, NUpon]
        refine ⟨_, _, h _ (hst.fresh (Nat.le_refl _)), .addr _ _, hst.new ?_, evo_new hst⟩
        rename_i r ents clock
        have he := evo_new (o := .mapIter (some r) clock #[] clock) (ao := .miter es []) hst
        exact ⟨some r, clock, #[], clock, by simp, .inr ⟨r, ents, rfl, he.imm _ h1, (he.same _ h1).trans h2, rfl, h0, he.repL h3, he.repL h4, by simp, by simp⟩⟩
    · exact h.elim
  · -- next
    rename_i x isS hop
    split at h
    · rename_i b hx
      split at h
      · rename_i s pos hb
        intro ρc w ho hst
        have hr := ho x (by simp [hop, Op.operands])
        rw [hx] at hr
        generalize hp : ρc x = p at hr
        cases hr
        have hw : w.heap[b]? = some (.stringIter s pos) := hst.obj _ _ hb
        have hg : (getObj b).run P w = .ok (.stringIter s pos) w := by simp [getObj, Sem.run, hw]
        have hlt := (Array.getElem?_eq_some_iff.1 hw).1
        by_cases hpos : pos < s.size
        · have hset : ∀ o, (setObj b o).run P w = .ok () (w.putObj b o) := by
            intro o; simp [setObj, Sem.run, hw, World.putObj]
          simp only [execOp, hop, hp, Instr.next, Sem.run_bind, hg, Result.andThen, Sem.run_pure, hpos, if_true, hset, NUpon]
          have he : Evo H w (H.upd b (.siter s (pos + (Utf8.decode s pos).2))) (w.putObj b (.stringIter s (pos + (Utf8.decode s pos).2))) := evo_set rfl rfl rfl (by simp) (fun k hk => World.putObj_heap_other hk) (by simp [hb])
          exact ⟨_, _, h.1 hpos, .tup (.cons (.val _ trivial) (.cons (.val _ trivial) (.cons (.val _ trivial) .nil))), (St.put_cells hst (by simp [hb]) (show RepO _ _ _ (.siter s _) from World.putObj_heap_same hlt)).1, he⟩
        · simp only [execOp, hop, hp, Instr.next, Sem.run_bind, hg, Result.andThen, Sem.run_pure, hpos, if_false, NUpon]
          exact ⟨_, _, h.2 hpos, .tup (.cons (.val _ trivial) .nil), hst, Evo.refl _ _⟩
      · rename_i es seen hb
        intro ρc w ho hst
        have hr := ho x (by simp [hop, Op.operands])
        rw [hx] at hr
        generalize hp : ρc x = p at hr
        cases hr
        obtain ⟨m, si, sb, la, hw, hm⟩ := hst.obj _ _ hb
        have hlt := (Array.getElem?_eq_some_iff.1 hw).1
        rcases hm with ⟨rfl, rfl⟩ | ⟨r, ents, rfl, hI, hr, rfl, hS, hk, hv, hsb, hin⟩
        · have hg : (getObj b).run P w = .ok (.mapIter none si sb la) w := by simp [getObj, Sem.run, hw]
          simp only [execOp, hop, hp, Instr.next, Sem.run_bind, hg, Result.andThen, Sem.run_pure, NUpon]
          exact ⟨_, _, h.1 (by simp), .tup (.cons (.val _ trivial) .nil), hst, Evo.refl _ _⟩
        · rcases run_next_at (P := P) w o.type b r la la sb ents la hw hr hS.1 (Nat.le_refl _) with ⟨hz, e1⟩ | ⟨e, hem, w1, hw1, e1⟩
          · have hall : ∀ j, j < es.length → j ∈ seen := by
              intro j hj
              have hl := hk.length
              simp only [List.length_map, Array.length_toList] at hl
              have hj' : j < ents.size := by omega
              have hc : ents[j].born ∈ sb.toList := by
                have hnl : ents[j] ∉ (leftOf ents sb).toList := by
                  intro hmm
                  have : 0 < (leftOf ents sb).toList.length := List.length_pos_of_mem hmm
                  simp at this; omega
                simp only [leftOf, Array.toList_filter, List.mem_filter, Array.mem_toList_iff, Array.getElem_mem, true_and, Bool.not_eq_true', Bool.not_eq_false] at hnl
                simpa using hnl
              rw [hsb, List.mem_filterMap] at hc
              obtain ⟨i, hi, hq⟩ := hc
              have hi' := hin i hi
              rw [Array.getElem?_eq_getElem hi'] at hq
              simp only [Option.map_some, Option.some.injEq] at hq
              have : i = j := by
                have hnd := hS.2
                have q1 : (ents.toList.map (·.born))[i]'(by simpa using hi') = (ents.toList.map (·.born))[j]'(by simpa using hj') := by simpa using hq
                exact (List.getElem_inj hnd).1 q1
              exact this ▸ hi
            simp only [execOp, hop, hp, Sem.run_bind, e1, Result.andThen, Sem.run_pure, NUpon]
            exact ⟨_, _, h.1 hall, .tup (.cons (.val _ trivial) .nil), hst, Evo.refl _ _⟩
          · simp only [leftOf, Array.toList_filter, List.mem_filter, Array.mem_toList_iff] at hem
            obtain ⟨hem1, hem2⟩ := hem
            obtain ⟨j, hj, rfl⟩ := Array.mem_iff_getElem.1 hem1
            have hns : j ∉ seen := by
              intro hmm
              have : ents[j].born ∈ sb.toList := by
                rw [hsb, List.mem_filterMap]
                exact ⟨j, hmm, by rw [Array.getElem?_eq_getElem hj]; rfl⟩
              simp only [Bool.not_eq_true', Array.contains_eq_mem, decide_eq_false_iff_not] at hem2
              exact hem2 (by simpa using this)
            have hl := hk.length
            simp only [List.length_map, Array.length_toList] at hl
            obtain ⟨e0, he0⟩ : ∃ e0, es[j]? = some e0 := ⟨_, List.getElem?_eq_getElem (by omega)⟩
            obtain ⟨v1, g1, r1⟩ := hk.get j e0.1 (by simp [he0])
            obtain ⟨v2, g2, r2⟩ := hv.get j e0.2 (by simp [he0])
            have g1' : v1 = ents[j].key := by simpa [hj] using g1.symm
            have g2' : v2 = ents[j].val := by simpa [hj] using g2.symm
            subst g1' g2'
            have hset : ∀ (w1 : World) (o : Obj), ChangeMaps.setBlock w1 b o = w1.putObj b o := fun _ _ => rfl
            rw [hset] at e1
            simp only [execOp, hop, hp, Sem.run_bind, e1, Result.andThen, Sem.run_pure, NUpon]
            have hh : w1.heap = w.heap := by rcases hw1 with rfl | rfl <;> rfl
            have hev : Evo H w (H.upd b (.miter es (seen ++ [j]))) (w1.putObj b (.mapIter (some r) la (sb.push ents[j].born) la)) :=
              evo_set (by rcases hw1 with rfl | rfl <;> rfl) (by rcases hw1 with rfl | rfl <;> rfl) (by rcases hw1 with rfl | rfl <;> rfl) (by simp [hh]) (fun k hk => by rw [World.putObj_heap_other hk, hh]) (by simp [hb])
            refine ⟨_, _, h.2 j e0 he0 hns, .tup (.cons (.val _ trivial) (.cons (hev.rep r1) (.cons (hev.rep r2) .nil))), hst.set hev (fun k hk => by rw [World.putObj_heap_other hk, hh]) ?_, hev⟩
            refine ⟨some r, la, sb.push ents[j].born, la, World.putObj_heap_same (by rw [hh]; exact hlt), .inr ⟨r, ents, rfl, hev.imm _ hI, (hev.same _ hI).trans hr, rfl, hS, hev.repL hk, hev.repL hv, ?_, ?_⟩⟩
            · simp [hsb, hj]
            · intro i hi
              rcases List.mem_append.1 hi with hi | hi
              · exact hin i hi
              · simp only [List.mem_singleton] at hi; subst hi; exact hj
      · exact h.elim
    · exact h.elim
  · -- entry
    rename_i x hop
    split at h
    · rename_i b hx
      split at h
      · rename_i es seen hb
        obtain ⟨j, e0, hl0, he0, hK⟩ := h
        intro ρc w ho hst
        have hr := ho x (by simp [hop, Op.operands])
        rw [hx] at hr
        generalize hp : ρc x = p at hr
        cases hr
        obtain ⟨m, si, sb, la, hw, hm⟩ := hst.obj _ _ hb
        rcases hm with ⟨rfl, rfl⟩ | ⟨r, ents, rfl, hI, hr, rfl, hS, hk, hv, hsb, hin⟩
        · simp at he0
        · have hjs : j ∈ seen := List.mem_of_getLast? hl0
          have hj := hin j hjs
          obtain ⟨s0, hs0⟩ : ∃ s0, seen = s0 ++ [j] := by
            obtain ⟨s0, rfl⟩ := List.getLast?_eq_some_iff.1 hl0
            exact ⟨s0, rfl⟩
          obtain ⟨sb0, hsb0⟩ : ∃ sb0 : Array Nat, sb = sb0.push ents[j].born := by
            rw [hs0, List.filterMap_append] at hsb
            simp only [List.filterMap_cons, List.filterMap_nil, Array.getElem?_eq_getElem hj, Option.map_some] at hsb
            exact ⟨(s0.filterMap fun i => (ents[i]?).map (·.born)).toArray, by apply Array.ext'; rw [hsb]; simp⟩
          rw [hsb0] at hw
          have e1 := run_entry_at (P := P) w b r la sb0 ents la ents[j] hw hr (by simp) hS.2
          obtain ⟨v1, g1, r1⟩ := hk.get j e0.1 (by simp [he0])
          obtain ⟨v2, g2, r2⟩ := hv.get j e0.2 (by simp [he0])
          have g1' : v1 = ents[j].key := by simpa [hj] using g1.symm
          have g2' : v2 = ents[j].val := by simpa [hj] using g2.symm
          subst g1' g2'
          simp only [execOp, hop, hp, Sem.run_bind, e1, Result.andThen, Sem.run_pure, NUpon]
          exact ⟨_, _, hK, rep_tup2 r1 r2, hst, Evo.refl _ _⟩
      · exact h.elim
    · exact h.elim
  · split at h
    · exact vx_val ‹_› h
    · exact h.elim

/-! ### Regions -/
variable {n : Nat} {r : Option Nat} {Q Q' : AX → AS → Prop} {s : AS}

def vop (P : Program) (G : GT) (M : List Nat) (ops : Array Oper) (Q : AX → AS → Prop) (o : Oper) (K : AS → Prop) (s : AS) : Prop :=
  if wantA ops o s.tmps then vx P G M (s.eval G) s.H o (fun
    | .ret v, H' => K (s.put o.dst v H')
    | .pan v, H' => Q (.pan v) { s with H := H' })
  else K (s.put o.dst .unit s.H)
def vops (P : Program) (G : GT) (M : List Nat) (ops : Array Oper) (Q : AX → AS → Prop) : List Oper → AS → Prop
  | [], s => Q .normal s
  | o :: rest, s => vop P G M ops Q o (vops P G M ops Q rest) s

theorem vop_sound {ops : Array Oper} {K : AS → Prop} (h : vop P G M ops Q o K s) : VOp P G ops Q o K s := by
  unfold vop at h
  unfold VOp
  split
  · rw [if_pos ‹_›] at h; exact vx_sound h
  · rw [if_neg ‹_›] at h; exact h
theorem vops_sound {ops : Array Oper} : ∀ (l : List Oper) (s : AS), vops P G M ops Q l s → VOps P G ops Q l s
  | [], _, h => h
  | o :: rest, s, h => (vop_sound h).mono fun s' h' => vops_sound rest s' h'
theorem VW_ops (M : List Nat) {id : Nat} {ops : Array Oper} (h : vops P G M ops Q ops.toList s) : VW P G n r (.region id ops false) Q s := VW_region (vops_sound _ _ h)

/-- A call that yields v and touches nothing. -/
def PureV (P : Program) (G : GT) (f : AV) (args : List AV) (H : HM) (v : AV) : Prop := ∀ K : ARes → HM → Prop, K (.ret v) H → CallV P G f args H K

def vqx (P : Program) (G : GT) (ρ : Operand → AV) (H : HM) (o : Oper) (K : AV → Prop) : Prop :=
  match o.op with
  | .call c => match c.callee with
    | .value f => ∃ v, PureV P G (ρ f) (c.args.toList.map ρ) H v ∧ K v
    | _ => match vval P ρ H o with
      | some v => K v
      | none => False
  | .box t x => (ρ x).one = true ∧ K (.ref (ρ x).cells)
  | .buildSlice t len parts => match tdAt P t with
    | some (.slice e sz) => if len = 0 then parts.toList = [] ∧ K .nil0 else
        parts.toList.map (·.1) = List.range len ∧ (∀ p ∈ parts.toList, (ρ p.2).cells.length = sz ∧ (ρ p.2).one = true) ∧ sz ≠ 0 ∧ len * sz ≤ 16777216 ∧ (tiOf P e).isSome = true ∧ K (.list (parts.toList.map fun p => ρ p.2))
    | _ => False
  | _ => match vval P ρ H o with
    | some v => K v
    | none => False
theorem vqx_sound {K : AV → Prop} (h : vqx P G ρ H o K) : ∃ v, VQuiet P G ρ H o v ∧ K v := by
  unfold vqx at h
  split at h
  · rename_i c hop
    split at h
    · rename_i f hf
      obtain ⟨v, h1, h2⟩ := h
      refine ⟨v, fun K' hk => vx_sound (M := []) ?_, h2⟩
      unfold vx
      simp only [hop, hf]
      exact h1 K' hk
    · split at h
      · exact ⟨_, vval_quiet ‹_›, h⟩
      · exact h.elim
  · rename_i t x hop
    refine ⟨_, fun K' hk => vx_sound (M := []) ?_, h.2⟩
    unfold vx
    simp only [hop]
    refine ⟨h.1, ?_⟩
    have : isMut [] o.dst = false := by unfold isMut; split <;> simp
    rw [this]; exact hk
  · rename_i t len parts hop
    split at h
    · rename_i e sz ht
      split at h
      · rename_i hl
        refine ⟨_, fun K' hk => vx_sound (M := []) ?_, h.2⟩
        unfold vx
        simp only [hop, ht, hl, if_true]
        exact ⟨h.1, hk⟩
      · rename_i hl
        obtain ⟨h1, h2, h3, h4, h5, h6⟩ := h
        refine ⟨_, fun K' hk => vx_sound (M := []) ?_, h6⟩
        unfold vx
        simp only [hop, ht, hl, if_false]
        exact ⟨h1, h2, h3, h4, h5, hk⟩
    · exact h.elim
  · split at h
    · exact ⟨_, vval_quiet ‹_›, h⟩
    · exact h.elim

def vqs (P : Program) (G : GT) (ops : Array Oper) : List Oper → AS → (AS → Prop) → Prop
  | [], s, K => K s
  | o :: rest, s, K => if wantA ops o s.tmps then vqx P G (s.eval G) s.H o (fun v => vqs P G ops rest (s.put o.dst v s.H) K) else vqs P G ops rest (s.put o.dst .unit s.H) K
theorem vqs_sound {ops : Array Oper} {K : AS → Prop} : ∀ (l : List Oper) (s : AS), vqs P G ops l s K → VQ P G ops l s K
  | [], _, h => h
  | o :: rest, s, h => by
    unfold vqs at h
    unfold VQ
    split
    · rw [if_pos ‹_›] at h
      obtain ⟨v, h1, h2⟩ := vqx_sound h
      exact ⟨v, h1, vqs_sound rest _ h2⟩
    · rw [if_neg ‹_›] at h; exact vqs_sound rest _ h
theorem vqs_mono {ops : Array Oper} {K K' : AS → Prop} (hk : ∀ s, K s → K' s) : ∀ (l : List Oper) (s : AS), VQ P G ops l s K → VQ P G ops l s K'
  | [], _, h => hk _ h
  | o :: rest, s, h => by
    unfold VQ at *
    split
    · rw [if_pos ‹_›] at h; obtain ⟨v, h1, h2⟩ := h; exact ⟨v, h1, vqs_mono hk rest _ h2⟩
    · rw [if_neg ‹_›] at h; exact vqs_mono hk rest _ h
/-- **A region that draws its order: k quiet operations, then the rest in the order of the text.** -/
theorem VW_quiet (M : List Nat) {id : Nat} {ops : Array Oper} (k : Nat) (hm : P.follows .mixedOrders = true) (hk : headOk ops k = true) (ht : tailOk ops k = true)
    (h : vqs P G ops (ops.toList.take k) s (fun s1 => vops P G M ops Q (ops.toList.drop k) s1)) : VW P G n r (.region id ops true) Q s :=
  VW_draw k hm hk ht (vqs_mono (fun s' h' => vops_sound _ _ h') _ _ (vqs_sound _ _ h))
end
end Go.V
