/- What the listed package-level tables hold, and a world that holds them. No condition. -/
import Derived.Test.YtjeiboididfgmaaGreatDoorYw
import Derived.Test.YtjeiboididfgmaaGreatDoorRows
import Derived.Lib.LaidTab
import Derived.Lib.LaidU8
set_option linter.unusedVariables false
set_option linter.unusedSimpArgs false
set_option linter.defProp false
set_option maxRecDepth 100000
namespace Go.V
open Go Go.Proofs Go.Proofs.Tryz Go.Proofs.YtjeiboididfgmaaGreatDoor

def litV : Lit → Value
  | .bool b => .bool b
  | .int k n => .int k n
  | _ => .bool false
def litTy (P : Program) (t : TypeId) : Bool := match P.underlying t with
  | some .bool | some (.int _) => true
  | _ => false
section
variable {H : Type} {enc : TypeId × Value → H} {P : Program} {w : World} {base : Nat} {sp : Nat → Bool} {held : Bool}
theorem lit_cells {fuel : Nat} {t : TypeId} {cs : List Value} {l : Lit} {p : List MemPlace} (ht : litTy P t = true) (h : DataW.trod enc P w base sp held fuel t cs = some (.lit l, p)) : cs = [litV l] := by
  unfold litTy at ht
  split at ht <;> try (cases ht; done)
  · rename_i hd
    obtain ⟨b, rfl, hx⟩ := DataW.trod_bool hd h
    cases hx; rfl
  · rename_i k hd
    obtain ⟨n, rfl, hx, _⟩ := DataW.trod_int hd h
    cases hx; rfl
def rowTy (P : Program) (t : TypeId) : Bool := match P.underlying t with
  | some (.struct fs) => Nat.beq (P.cellsOf t) fs.size && (fs.toList.zipIdx.all fun f => Nat.beq f.1.offset f.2 && Nat.beq (P.cellsOf f.1.type) 1 && litTy P f.1.type)
  | _ => false
theorem row_cells {fuel : Nat} {t : TypeId} {cs : List Value} {ls : List Lit} {p : List MemPlace} (ht : rowTy P t = true) (h : DataW.trod enc P w base sp held fuel t cs = some (.agg (ls.map .lit), p)) : cs = ls.map litV := by
  unfold rowTy at ht
  split at ht <;> try (cases ht; done)
  rename_i fs hd
  simp only [Bool.and_eq_true] at ht
  obtain ⟨hn, hall⟩ := ht
  have hn := Nat.eq_of_beq_eq_true hn
  cases fuel with
  | zero => simp [DataW.trod] at h
  | succ fuel =>
    unfold DataW.trod at h
    rw [hd] at h
    simp only at h
    split at h
    · rename_i hl
      obtain ⟨xs, hm, hx⟩ := Option.map_eq_some_iff.1 h
      have hxs : xs.map (·.1) = ls.map fun z => (DataW.lit z : DataW H) := by
        have := congrArg Prod.fst hx
        simpa using this
      have hxl : xs.length = fs.size := by simpa using Lib.mapM_length hm
      have hzl : ls.length = fs.size := by
        have := congrArg List.length hxs
        simp at this
        omega
      apply List.ext_getElem?
      intro i
      by_cases hi : i < fs.size
      · obtain ⟨f, hf⟩ : ∃ f, fs.toList[i]? = some f := ⟨_, List.getElem?_eq_getElem (by simpa using hi)⟩
        obtain ⟨b, hb, hfb⟩ := Lib.mapM_at hm i f hf
        have hz : (f, i) ∈ fs.toList.zipIdx := by
          rw [List.mem_zipIdx_iff_getElem?]; exact hf
        have ha := List.all_eq_true.1 hall _ hz
        simp only [Bool.and_eq_true] at ha
        obtain ⟨⟨a1, a2⟩, a3⟩ := ha
        have a1 := Nat.eq_of_beq_eq_true a1
        have a2 := Nat.eq_of_beq_eq_true a2
        rw [a1, a2] at hfb
        have h2 : (xs.map (·.1))[i]? = some b.1 := by simp [hb]
        rw [hxs] at h2
        obtain ⟨z, hz1, hz2⟩ := Option.map_eq_some_iff.1 (by rw [List.getElem?_map] at h2; exact h2)
        obtain ⟨b1, b2⟩ := b
        simp only at hz2
        subst hz2
        have hc := lit_cells a3 hfb
        have h1 : cs[i]? = some (litV z) := by
          have := congrArg (·[0]?) hc
          simpa [List.getElem?_take, List.getElem?_drop] using this
        simp [h1, hz1]
      · rw [List.getElem?_eq_none (by omega), List.getElem?_eq_none (by simp; omega)]
    · cases h
theorem flat_cells {m : Nat} : ∀ (rows : List (List Value)) (cs : List Value), cs.length = rows.length * m → (∀ i (r : List Value), rows[i]? = some r → (cs.drop (i * m)).take m = r) → cs = rows.flatten
  | [], cs, hl, _ => by
    have : cs.length = 0 := by simpa using hl
    simpa using List.eq_nil_of_length_eq_zero this
  | r :: rs, cs, hl, h => by
    have h0 := h 0 r rfl
    simp only [Nat.zero_mul, List.drop_zero] at h0
    have ih := flat_cells (m := m) rs (cs.drop m) (by rw [List.length_drop, hl, List.length_cons, Nat.succ_mul]; omega) (fun i r' hr => by
      have := h (i + 1) r' (by simpa using hr)
      rwa [List.drop_drop, show m + i * m = (i + 1) * m by rw [Nat.succ_mul]; omega])
    rw [List.flatten_cons, ← ih, ← h0, List.take_append_drop]
theorem tab_cells {fuel n : Nat} {t e : TypeId} {cs : List Value} {rows : List (List Lit)} {p : List MemPlace} (ht : P.underlying t = some (.array n e)) (he : rowTy P e = true) (hc : P.cellsOf t = n * P.cellsOf e)
    (h : DataW.trod enc P w base sp held fuel t cs = some (.agg (rows.map fun ls => .agg (ls.map .lit)), p)) : cs = (rows.map (·.map litV)).flatten := by
  cases fuel with
  | zero => simp [DataW.trod] at h
  | succ fuel =>
    unfold DataW.trod at h
    rw [ht] at h
    simp only at h
    split at h
    · rename_i hl
      obtain ⟨xs, hm, hx⟩ := Option.map_eq_some_iff.1 h
      have hxs : xs.map (·.1) = rows.map fun ls => (DataW.agg (ls.map .lit) : DataW H) := by
        have := congrArg Prod.fst hx
        simpa using this
      have hxl : xs.length = n := by simpa using Lib.mapM_length hm
      have hzl : rows.length = n := by
        have := congrArg List.length hxs
        simp at this
        omega
      refine flat_cells (m := P.cellsOf e) _ _ (by rw [hl, hc]; simp [hzl]) fun i r hr => ?_
      rw [List.getElem?_map] at hr
      obtain ⟨ls, hls, rfl⟩ := Option.map_eq_some_iff.1 hr
      have hi : i < n := by
        have := (List.getElem?_eq_some_iff.1 hls).1; omega
      obtain ⟨b, hb, hfb⟩ := Lib.mapM_at hm i i (by simp [hi])
      have h2 : (xs.map (·.1))[i]? = some b.1 := by simp [hb]
      rw [hxs, List.getElem?_map, hls] at h2
      obtain ⟨b1, b2⟩ := b
      simp only [Option.map_some, Option.some.injEq] at h2
      subst h2
      exact row_cells he hfb
    · cases h
end

/-! ### The tables -/
def avLit : AV → Lit
  | .val (.int k n) => .int k n
  | .val (.bool b) => .bool b
  | _ => .bool false
def shLits : List (List Lit) := shTab.map (·.map avLit)
def shVals : List Value := (shLits.map (·.map litV)).flatten
theorem shVals_av : shAll = shVals.map AV.val := by kernel_rfl
theorem shapes_laid : (Rows.laid_reprise_syntax_shapes : DataW Unit) = .agg (shLits.map fun ls => .agg (ls.map .lit)) := by kernel_rfl
def intsOf (k : IntKind) (zs : List Int) : List Value := zs.map fun z => .int k z
def spaceInts : List Int := (List.range 256).map fun c => if Lib.isSp (UInt8.ofNat c) then 1 else 0
theorem space_laid : (Rows.laid_strings_asciiSpace : DataW Unit) = Lib.tabData .u8 spaceInts := by kernel_rfl
theorem space_vals : spaceTab = intsOf .u8 spaceInts := by simp only [spaceTab, intsOf, spaceInts, List.map_map]; rfl
theorem pow_laid : (Rows.laid_internal_strconv_uint64pow10 : DataW Unit) = Lib.tabData .u64 Lib.pow10Tab := by kernel_rfl
def litOk : Value → Bool
  | .int _ _ | .bool _ => true
  | _ => false
abbrev H00 : HM := fun _ => none
theorem repL_lits {I : Nat → Prop} {w : World} : ∀ {vs : List Value}, vs.all litOk = true → RepL I w (vs.map AV.val) vs ∧ ∀ v ∈ vs, v.oneCell' = true
  | [], _ => ⟨.nil, fun _ h => by cases h⟩
  | v :: vs, h => by
    simp only [List.all_cons, Bool.and_eq_true] at h
    obtain ⟨h1, h2⟩ := repL_lits h.2
    have h3 : okV v ∧ v.oneCell' = true := by
      have := h.1
      cases v <;> simp_all [litOk, okV, Value.oneCell']
    refine ⟨.cons (.val v h3.1) h1, fun u hu => ?_⟩
    rcases List.mem_cons.1 hu with rfl | hu
    · exact h3.2
    · exact h2 u hu
theorem grep_of {W : World} {name : String} {g : Nat} {cs : Array Value} {vs : List Value} (hg : prog.globalNamed name = some g) (hv : W.var? prog name = some cs) (hc : cs.toList = vs) (hok : vs.all litOk = true) : GRep (Imm H00 W) W g (vs.map AV.val) := by
  unfold World.var? at hv
  rw [hg] at hv
  simp only [Option.bind_some] at hv
  split at hv <;> cases hv
  rename_i t fr hw
  obtain ⟨h1, h2⟩ := repL_lits (I := Imm H00 W) (w := W) hok
  have hlt := (Array.getElem?_eq_some_iff.1 hw).1
  exact ⟨vs, t, fr, by rw [hw, ← hc], ⟨hlt, rfl⟩, h1, h2⟩
theorem st0 {W : World} (h : laidMet prog Rows.scopeKnownRow.laid W) : St G0 H00 W := by
  refine ⟨fun b o e => (by cases e), fun g cs e => ?_⟩
  have s1 := Lib.laidMet.reads h (n := "reprise/syntax.shapes") (d := Rows.laid_reprise_syntax_shapes) (.tail _ (.tail _ (.tail _ (.tail _ (.tail _ (.head _))))))
  have s2 := Lib.laidMet.reads h (n := "strings.asciiSpace") (d := Rows.laid_strings_asciiSpace) (.tail _ (.tail _ (.tail _ (.tail _ (.head _)))))
  have s3 := Lib.laidMet.reads h (n := "internal/strconv.uint64pow10") (d := Rows.laid_internal_strconv_uint64pow10) (.tail _ (.tail _ (.head _)))
  unfold G0 at e
  split at e
  · rename_i hg
    obtain rfl := Nat.eq_of_beq_eq_true hg
    cases e
    obtain ⟨g', t, cs, fuel, p, h1, h2, h3, h4⟩ := s1
    have hn : prog.globalNamed "reprise/syntax.shapes" = some 0 := by kernel_rfl
    obtain rfl := Option.some.inj (hn.symm.trans h1)
    have ht : (prog.globals[0]?).map (·.type) = some 195 := by kernel_rfl
    obtain rfl := Option.some.inj (ht.symm.trans h2)
    rw [shapes_laid] at h4
    rw [shVals_av]
    exact grep_of hn h3 (tab_cells (n := 20) (e := 194) (by kernel_rfl) (by kernel_rfl) (by kernel_rfl) h4) (by kernel_rfl)
  split at e
  · rename_i hg
    obtain rfl := Nat.eq_of_beq_eq_true hg
    cases e
    obtain ⟨g', t, cs, fuel, p, h1, h2, h3, h4⟩ := s2
    have hn : prog.globalNamed "strings.asciiSpace" = some 1 := by kernel_rfl
    obtain rfl := Option.some.inj (hn.symm.trans h1)
    have ht : (prog.globals[1]?).map (·.type) = some 210 := by kernel_rfl
    obtain rfl := Option.some.inj (ht.symm.trans h2)
    rw [space_laid] at h4
    rw [space_vals]
    exact grep_of hn h3 (Lib.cells_of_tab (n := 256) (e := 5) (by kernel_rfl) (by kernel_rfl) (by kernel_rfl) (by kernel_rfl) h4) (by kernel_rfl)
  split at e
  · rename_i hg
    obtain rfl := Nat.eq_of_beq_eq_true hg
    cases e
    obtain ⟨g', t, cs, fuel, p, h1, h2, h3, h4⟩ := s3
    have hn : prog.globalNamed "internal/strconv.uint64pow10" = some 3 := by kernel_rfl
    obtain rfl := Option.some.inj (hn.symm.trans h1)
    have ht : (prog.globals[3]?).map (·.type) = some 233 := by kernel_rfl
    obtain rfl := Option.some.inj (ht.symm.trans h2)
    rw [pow_laid] at h4
    exact grep_of hn h3 (Lib.cells_of_tab (n := 20) (e := 209) (by kernel_rfl) (by kernel_rfl) (by kernel_rfl) (by kernel_rfl) h4) (by kernel_rfl)
  · cases e
end Go.V
