/- The library's contracts as contracts over abstract states. No condition. -/
import Derived.Test.YtjeiboididfgmaaGreatDoorVm
import Derived.Test.YtjeiboididfgmaaGreatDoorWl
set_option linter.unusedVariables false
set_option linter.unusedSimpArgs false
set_option linter.defProp false
set_option maxRecDepth 100000
namespace Go.V
open Go Go.Proofs Go.Proofs.Tryz

/-- The table of white space, the powers of ten: as they are laid. -/
def spaceTab : List Value := (List.range 256).map fun c => .int .u8 (if Lib.isSp (UInt8.ofNat c) then 1 else 0)
def powTab : List Value := Lib.pow10Tab.map fun z => .int .u64 z
structure Tabs (G : GT) : Prop where
  space : G 1 = some (spaceTab.map AV.val)
  pow : G 3 = some (powTab.map AV.val)

section
variable {G : GT} {H : HM}
theorem repL_vals {I : Nat → Prop} {w : World} : ∀ {l vs : List Value}, RepL I w (l.map AV.val) vs → vs = l
  | [], _, .nil => rfl
  | _ :: _, _, .cons h hs => by rw [h.val_eq, repL_vals hs]
theorem glob_cells {w : World} {g : Nat} {l : List Value} (hst : St G H w) (h : G g = some (l.map AV.val)) : ∃ t fr, w.heap[g]? = some (.cells l.toArray t fr) := by
  obtain ⟨vs, t, fr, h1, _, h3, _⟩ := hst.glob g _ h
  rw [repL_vals h3] at h1
  exact ⟨t, fr, h1⟩
theorem repL_one {I : Nat → Prop} {w : World} {v : Value} {vs : List Value} (h : RepL I w [.val v] vs) : vs = [v] := by
  cases h with | cons h0 h1 => cases h1; rw [h0.val_eq]
theorem bytes_mk (s : ByteArray) : (⟨(bytes s).toArray⟩ : ByteArray) = s := by cases s; rfl
theorem flat_strs (l : List ByteArray) : flat (strs l) = l.map fun s => AV.val (.string s) := by
  induction l with
  | nil => rfl
  | cons x l ih => rw [show strs (x :: l) = AV.str x :: strs l from rfl, flat_cons, ih]; rfl
/-- The text of the keywords. -/
def kwText : ByteArray := ⟨#[102, 117, 110, 32, 108, 101, 116, 32, 114, 101, 99, 32, 105, 110, 32, 105, 102, 32, 116, 104, 101, 110, 32, 101, 108, 115, 101, 32, 109, 97, 116, 99, 104, 32, 100, 111, 32, 104, 97, 110, 100, 108, 101, 32, 115, 104, 97, 108, 108, 111, 119, 32, 110, 97, 109, 101, 100, 32, 109, 97, 115, 107, 32, 117, 115, 105, 110, 103, 32, 99, 108, 111, 115, 101, 32, 114, 101, 115, 117, 109, 101, 32, 100, 114, 111, 112, 32, 114, 101, 116, 117, 114, 110, 32, 116, 114, 117, 101, 32, 102, 97, 108, 115, 101, 32, 100, 97, 116, 97, 32, 101, 102, 102, 101, 99, 116, 32, 111, 110, 99, 101, 32, 100, 101, 102, 32, 109, 97, 105, 110]⟩
theorem kw_fields0 : Lib.fields kwText.data.toList = keywords.map bytes := by decide
theorem kw_fields : (Lib.fields kwText.data.toList).map (fun l => Value.string ⟨l.toArray⟩) = keywords.map Value.string := by
  rw [kw_fields0, List.map_map]
  exact List.map_congr_left fun x _ => congrArg Value.string (bytes_mk x)
theorem kw_ascii : ∀ (j : Nat) b, kwText.data.toList[j]? = some b → b.toNat < 128 := by
  have h : ∀ b ∈ kwText.data.toList, b.toNat < 128 := by decide
  exact fun j b hj => h b (List.mem_of_getElem? hj)
theorem fields_c (hG : Tabs G) : PureF prog G 164 [.str kwText] H (.list (strs keywords)) := by
  refine ⟨by kernel_rfl, fun K hk w vs hr hst => ?_⟩
  rw [repL_one hr]
  obtain ⟨t, fr, hw⟩ := glob_cells hst hG.space
  have h := Any.strings_Fields_core lays157 (by kernel_rfl) kwText w (by decide) kw_ascii (fun c hc => by
    show w.cell? ⟨1, c, none⟩ = _
    rw [World.cell?]
    simp only [hw]
    simp [spaceTab, hc])
  have hlen : (Lib.fields kwText.data.toList).length = keywords.length := by
    have := congrArg List.length kw_fields
    simpa using this
  rw [kw_fields, hlen] at h
  refine CallsIn.mono (callsIn_wide.2 h) ?_
  rintro e w' ⟨rfl, rfl⟩
  have hrep : RepL (Imm H w) w (flat (strs keywords)) (keywords.map Value.string) := by
    rw [flat_strs]
    refine RepL.map_ _ _ _ fun x hx => .val _ ?_
    have : ∀ y ∈ keywords, y.size ≤ 68719476736 := by decide
    exact this x hx
  obtain ⟨a1, a2, a3⟩ := new_row_imm (e := 9) (sz := 1) hrep (by intro u hu; obtain ⟨x, _, rfl⟩ := List.mem_map.1 hu; rfl) (strs_sz _) (by rw [strs_len]; decide) hst
  rw [strs_len] at a3
  exact ⟨_, H, hk, a3, a1, a2⟩

theorem evo_grow {w : World} (hst : St G H w) (k : Nat) (os : Array Obj) : St G H (Go.Sort.grow (w.drewN k) os) ∧ Evo H w H (Go.Sort.grow (w.drewN k) os) := by
  have hh : ∀ b, b < w.heap.size → (Go.Sort.grow (w.drewN k) os).heap[b]? = w.heap[b]? := fun b hb => by
    show (w.heap ++ os)[b]? = _
    rw [Array.getElem?_append_left hb]
  have he : Evo H w H (Go.Sort.grow (w.drewN k) os) := ⟨rfl, rfl, rfl, by show w.heap.size ≤ (w.heap ++ os).size; simp, fun b hb => ⟨hb.2, hh b hb.1⟩⟩
  exact ⟨hst.evo he fun b o e => hh b (hst.obj b o e).lt, he⟩
def itoa (n : Nat) : ByteArray := ⟨(Lib.itoa n).toArray⟩
theorem itoa_c (hG : Tabs G) (n : Nat) (hn : n ≤ 9223372036854775807) (hs : (itoa n).size ≤ lim) : PureF prog G 107 [.int n] H (.str (itoa n)) := by
  refine ⟨by kernel_rfl, fun K hk w vs hr hst => ?_⟩
  rw [repL_one hr]
  obtain ⟨t, fr, hw⟩ := glob_cells hst hG.pow
  have h := Any.strconv_Itoa laysM171 (n : Int) (by omega) (by omega) w (by
    show World.var? prog w "internal/strconv.uint64pow10" = _
    have hg : prog.globalNamed "internal/strconv.uint64pow10" = some 3 := by kernel_rfl
    simp only [World.var?, hg, Option.bind_some, hw]
    rfl)
  refine CallsIn.mono (callsIn_wide.2 h) ?_
  rintro e w' ⟨rfl, k, os, rfl⟩
  obtain ⟨a1, a2⟩ := evo_grow hst k os
  exact ⟨_, H, hk, .val _ hs, a1, a2⟩

/-- A list of strings in order. -/
def sortB (l : List ByteArray) : List ByteArray := ((l.map bytes).mergeSort fun x y => decide (x ≤ y)).map fun x => ⟨x.toArray⟩
theorem sortB_perm (l : List ByteArray) : (sortB l).Perm l := by
  have h := (List.mergeSort_perm (l.map bytes) fun x y => decide (x ≤ y)).map fun x : List UInt8 => (⟨x.toArray⟩ : ByteArray)
  rw [List.map_map] at h
  have e : l.map ((fun x : List UInt8 => (⟨x.toArray⟩ : ByteArray)) ∘ bytes) = l := by
    conv => rhs; rw [← List.map_id l]
    exact List.map_congr_left fun x _ => bytes_mk x
  rw [e] at h; exact h
theorem sortB_len (l : List ByteArray) : (sortB l).length = l.length := (sortB_perm l).length_eq
theorem putCells_row (ss : List (List UInt8)) (vs rest : List Value) (h : vs.length = ss.length) : Go.Sort.putCells encStr 0 ss.toArray (vs ++ rest).toArray = (ss.map encStr ++ rest).toArray := by
  apply Array.ext'
  simp only [Go.Sort.putCells, Array.toList_mapIdx]
  apply List.ext_getElem?
  intro i
  simp only [List.getElem?_mapIdx]
  by_cases hi : i < ss.length
  · rw [List.getElem?_append_left (by omega), List.getElem?_append_left (by simpa using hi)]
    rw [List.getElem?_eq_getElem (show i < vs.length by omega), List.getElem?_map, List.getElem?_eq_getElem hi]
    simp [hi]
  · rw [List.getElem?_append_right (by omega), List.getElem?_append_right (by simpa using hi)]
    simp only [List.length_map, h]
    cases rest[i - ss.length]? with
    | none => rfl
    | some v => simp [hi]
theorem sort_c (l : List ByteArray) (b n cap : Nat) (hl : l.length ≤ lim) (hn : n = l.length) (hx : ∀ x ∈ l, x.size ≤ lim) (hb : H b = some (.row 9 1 cap (strs l))) {K : ARes → HM → Prop} (hk : K (.ret .unit) (H.upd b (.row 9 1 cap (strs (sortB l))))) :
    CallF prog G 133 [.mlist b n cap] H K := by
  intro w vs hr hst
  subst hn
  obtain rfl : vs = [.slice (some ⟨b, 0, none⟩) l.length cap] := by
    cases hr with | cons h0 h1 => cases h1; cases h0; rfl
  obtain ⟨us, rest, q1, q2, q3, q4, q5, q6⟩ := hst.obj _ _ hb
  have hfl : flat (strs l) = (l.map Value.string).map AV.val := by rw [flat_strs, List.map_map]; rfl
  rw [hfl] at q2
  have hus := repL_vals q2
  subst hus
  have hlt := (Array.getElem?_eq_some_iff.1 q1).1
  have hH : Go.Sort.Holds encStr w b 0 (l.map bytes).toArray := by
    intro j hj
    have hj' : j < l.length := by simpa using hj
    constructor
    · rw [World.cell?]
      simp only [q1]
      simp [hj', encStr, bytes_mk]
      rw [List.getElem?_append_left (by simpa using hj')]
      simp [hj']
    · exact frozen_block q1
  have h0 : ∀ (cs : List Frame), ∃ e w' fr, (e = .returned (.tuple #[]) ∧ ∃ n os, w' = Go.Sort.grow (Go.Sort.putRow encStr (Go.Sort.ahead w n) b 0 ((l.map bytes).mergeSort fun x y => decide (x ≤ y)).toArray) os) ∧
      Comes prog (lone (Frame.enter prog 133 #[.slice (some ⟨b, 0, none⟩) l.length cap] .normal) cs w) (lone fr cs w') e ∧ fr.fn = 133 ∧ fr.leaving prog w' e := by
    intro cs
    obtain ⟨e, w', fr, r, s, x⟩ := (AnyS.slices_Sort_string_in lays190 (cs.length + 67) b 0 cap (l.map bytes) w hH hlt (by unfold lim at hl; simp; omega)).2 cs (fun d hd => by cases hd; omega)
    rw [List.length_map] at s
    exact ⟨e, w', fr, r, s.comes, x⟩
  have h1 : Calls prog 133 #[.slice (some ⟨b, 0, none⟩) l.length cap] w _ := fun cs => h0 cs
  refine CallsIn.mono (callsIn_wide.2 h1) ?_
  rintro e w' ⟨rfl, m, os, rfl⟩
  generalize hss : ((l.map bytes).mergeSort fun x y => decide (x ≤ y)) = ss
  have hsl : ss.length = l.length := by rw [← hss]; simp
  have hsb : sortB l = ss.map fun x => (⟨x.toArray⟩ : ByteArray) := by rw [sortB, hss]
  obtain ⟨W, hW⟩ : ∃ W, W = Go.Sort.grow (Go.Sort.putRow encStr (Go.Sort.ahead w m) b 0 ss.toArray) os := ⟨_, rfl⟩
  rw [← hW]
  have hsz : w.heap.size ≤ W.heap.size := by rw [hW]; show w.heap.size ≤ ((w.heap.modify b _) ++ os).size; simp
  have hother : ∀ k, k < w.heap.size → k ≠ b → W.heap[k]? = w.heap[k]? := fun k hk hkb => by
    rw [hW]
    show ((w.heap.modify b _) ++ os)[k]? = _
    rw [Array.getElem?_append_left (by simpa using hk), Array.getElem?_modify, if_neg (Ne.symm hkb)]
  have hself : W.heap[b]? = some (.cells (ss.map encStr ++ rest).toArray 9 (0, 0)) := by
    rw [hW]
    show ((w.heap.modify b (Go.Sort.onCells (Go.Sort.putCells encStr 0 ss.toArray))) ++ os)[b]? = _
    rw [Array.getElem?_append_left (by simpa using hlt), Array.getElem?_modify, if_pos rfl, q1]
    simp only [Option.map_some, Go.Sort.onCells]
    rw [putCells_row ss _ rest (by rw [hsl]; simp)]
  have hev : Evo H w (H.upd b (.row 9 1 cap (strs (sortB l)))) W := by
    refine ⟨by rw [hW]; rfl, by rw [hW]; rfl, by rw [hW]; rfl, hsz, fun k hi => ?_⟩
    have hkb : k ≠ b := fun e => by have := hi.2; rw [e, hb] at this; cases this
    exact ⟨by rw [HM.upd_ne _ _ hkb]; exact hi.2, hother k hi.1 hkb⟩
  have hss2 : ∀ x ∈ sortB l, x.size ≤ lim := fun x hx' => hx x ((sortB_perm l).mem_iff.1 hx')
  refine ⟨.unit, _, hk, rep_undef _ _, ?_, hev⟩
  refine ⟨fun k o e => ?_, fun g cs e => (hst.glob g cs e).map (fun hi _ => hev.imm _ hi) (fun hi _ => hev.same _ hi) fun hr => hev.repL hr⟩
  by_cases hkb : k = b
  · subst hkb
    rw [HM.upd_same] at e; cases e
    refine ⟨ss.map encStr, rest, hself, ?_, strs_sz _, ?_, ?_, ?_⟩
    · have e1 := flat_strs (sortB l)
      have e2 : ss.map encStr = (sortB l).map Value.string := by rw [hsb, List.map_map]; rfl
      rw [e1, e2]
      exact RepL.map_ _ _ _ fun x hx' => .val _ (hss2 x hx')
    · intro u hu; obtain ⟨x, _, rfl⟩ := List.mem_map.1 hu; rfl
    · rw [strs_len, sortB_len]; simpa [strs_len] using q5
    · rw [strs_len, sortB_len]; simpa [strs_len] using q6
  · rw [HM.upd_ne _ _ hkb] at e
    exact (hst.obj k o e).keep hev.imm hev.same (hother k (hst.obj k o e).lt hkb)
end
end Go.V
