/- Operations that only compute and read, by value. No condition. -/
import Derived.Test.YtjeiboididfgmaaGreatDoorVb
import Derived.Laws.Entries
import Derived.Laws.Strings
import Derived.ChangeKeysEq
set_option linter.unusedVariables false
set_option linter.unusedSimpArgs false
namespace Go.V
open Go

/-! ### Types -/
inductive TD where
  | int (k : IntKind)
  | bool
  | str
  | ptr
  | struct (fs : List (Nat × Nat × Bool))
  | slice (e sz : Nat)
  | map (k e : Nat)
  | arr (len e sz : Nat)
  | func
  | iface
  | other
structure TI where
  d : TD
  size : Nat
  bytes : Nat
  zero : AV
def isAggB (P : Program) (t : TypeId) : Bool := match P.underlying t with | some (.struct _) | some (.array _ _) => true | _ => false
def szOf (P : Program) (t : TypeId) : Nat := match P.info? t with | some i => i.size | none => 0
def tdOf (P : Program) : TypeDesc → TD
  | .int k => .int k
  | .bool => .bool
  | .string => .str
  | .pointer _ => .ptr
  | .slice e => .slice e (szOf P e)
  | .map k e => .map k e
  | .struct fs => .struct (fs.toList.map fun f => (f.offset, szOf P f.type, isAggB P f.type))
  | .array n e => .arr n e (szOf P e)
  | .func .. => .func
  | .interface _ => .iface
  | _ => .other
def allInfo (P : Program) : TypeDesc → Bool
  | .slice e | .array _ e => (P.info? e).isSome
  | .struct fs => fs.toList.all fun f => (P.info? f.type).isSome && (P.underlying f.type).isSome
  | _ => true
def tiOf (P : Program) (t : TypeId) : Option TI :=
  match P.info? t, P.underlying t with
  | some i, some d => match i.zero with
    | some z => if cstOk z && allInfo P d && z.cells.size == i.size then some ⟨tdOf P d, i.size, i.bytes, cst z⟩ else none
    | none => none
  | _, _ => none
structure TIs (P : Program) (t : TypeId) (ti : TI) (i : TypeInfo) (d : TypeDesc) (z : Value) : Prop where
  info : P.info? t = some i
  und : P.underlying t = some d
  zero : i.zero = some z
  ok : cstOk z = true
  all : allInfo P d = true
  zsize : z.cells.size = i.size
  eq : ti = ⟨tdOf P d, i.size, i.bytes, cst z⟩
theorem tiOf_some {P : Program} {t : TypeId} {ti : TI} (h : tiOf P t = some ti) : ∃ i d z, TIs P t ti i d z := by
  unfold tiOf at h
  split at h
  · rename_i i d hi hd
    split at h
    · rename_i z hz
      split at h
      · rename_i hc
        simp only [Bool.and_eq_true, beq_iff_eq] at hc
        exact ⟨i, d, z, hi, hd, hz, hc.1.1, hc.1.2, hc.2, (Option.some.inj h).symm⟩
      · cases h
    · cases h
  · cases h
def tdAt (P : Program) (t : TypeId) : Option TD := (tiOf P t).map TI.d
def TI.agg (ti : TI) : Bool := match ti.d with | .struct _ | .arr _ _ _ => true | _ => false

/-! ### Reading -/
def ldv (ti : TI) (cs : List AV) : Option AV :=
  if ti.agg then (if ti.size ≤ cs.length then some (.agg (cs.take ti.size)) else none) else cs.head?
def cellsAt (H : HM) : AV → Option (List AV)
  | .ref cs => some cs
  | .addr b off => match H b with
    | some (.cells _ cs) => some (cs.drop off)
    | _ => none
  | .elem b i sz off => match H b with
    | some (.row _ sz' _ xs) => if sz = sz' then (xs[i]?).map fun x => x.cells.drop off else none
    | _ => none
  | _ => none
def strLt (a b : ByteArray) : Bool := Op.bytesLess a.toList b.toList

/-- x == nil -/
def vnil : TD → AV → Value → Option Bool
  | .map _ _, .val (.map none), .map none => some true
  | .map _ _, .map _, .map none => some false
  | .map _ _, .imap _, .map none => some false
  | .ptr, .val (.pointer none), .pointer none => some true
  | .ptr, .ref _, .pointer none => some false
  | .ptr, .addr _ _, .pointer none => some false
  | _, _, _ => none

def vbin (P : Program) (op : BinOp) (t : TypeId) : AV → AV → Option AV
  | .val (.int k a), .val (.int k' b) =>
    if k = k' then
      match op with
      | .add => some (.val (.int k (k.wrap (a + b))))
      | .sub => some (.val (.int k (k.wrap (a - b))))
      | .mul => some (.val (.int k (k.wrap (a * b))))
      | .quo => if b = 0 then none else some (.val (.int k (k.wrap (a.tdiv b))))
      | .rem => if b = 0 then none else some (.val (.int k (a.tmod b)))
      | .eql => some (.val (.bool (decide (a = b))))
      | .neq => some (.val (.bool (!decide (a = b))))
      | .lss => some (.val (.bool (decide (a < b))))
      | .leq => some (.val (.bool (decide (a ≤ b))))
      | .gtr => some (.val (.bool (decide (b < a))))
      | .geq => some (.val (.bool (decide (b ≤ a))))
      | _ => none
    else none
  | .val (.string a), .val (.string b) =>
    match op with
    | .add => if a.size + b.size ≤ lim then some (.val (.string (a ++ b))) else none
    | .eql => some (.val (.bool (decide (a = b))))
    | .neq => some (.val (.bool (!decide (a = b))))
    | .lss => some (.val (.bool (strLt a b)))
    | .leq => some (.val (.bool (strLt a b || decide (a = b))))
    | .gtr => some (.val (.bool (!(strLt a b || decide (a = b)))))
    | .geq => some (.val (.bool (!strLt a b)))
    | _ => none
  | .val (.bool a), .val (.bool b) =>
    match tdAt P t, op with
    | some .bool, .eql => some (.val (.bool (a == b)))
    | some .bool, .neq => some (.val (.bool (!(a == b))))
    | _, _ => none
  | x, .val n =>
    match tdAt P t, op with
    | some d, .eql => (vnil d x n).map fun b => .val (.bool b)
    | some d, .neq => (vnil d x n).map fun b => .val (.bool (!b))
    | _, _ => none
  | _, _ => none

def vlen (H : HM) : AV → Option Nat
  | .list xs => some xs.length
  | .nil0 => some 0
  | .mlist _ n _ => some n
  | .val (.string s) => some s.size
  | .val (.map none) => some 0
  | .imap es => some es.length
  | .map b => match H b with
    | some (.map es) => some es.length
    | _ => none
  | _ => none

/-- Keys of maps that are compared by sight. -/
def keyOf : AV → Option Value
  | .val (.string s) => some (.string s)
  | .val (.int k n) => some (.int k n)
  | .val (.bool b) => some (.bool b)
  | _ => none
def keyFits : TD → Value → Bool
  | .str, .string _ => true
  | .int k, .int k' _ => k == k'
  | .bool, .bool _ => true
  | _, _ => false
def sameKeyV : Value → Value → Bool
  | .string a, .string b => a == b
  | .int _ a, .int _ b => a == b
  | .bool a, .bool b => a == b
  | _, _ => false
/-- Look up in a list of entries. -/
def assoc (k : Value) : List (AV × AV) → Option AV
  | [] => none
  | (.val u, v) :: es => if sameKeyV k u then some v else assoc k es
  | _ :: es => assoc k es
def keysOk (d : TD) (es : List (AV × AV)) : Bool := es.all fun e => match e.1 with | .val u => keyFits d u | _ => false

def entriesOf (H : HM) : AV → Option (List (AV × AV))
  | .val (.map none) => some []
  | .imap es => some es
  | .map b => match H b with
    | some (.map es) => some es
    | _ => none
  | _ => none

def fieldOf (ti : TI) (i : Nat) : Option (Nat × Nat × Bool) := match ti.d with | .struct fs => fs[i]? | _ => none

def vslice (lo hi mx : Option AV) : AV → Option AV
  | .val (.string s) => match lo, hi, mx with
    | none, none, none => some (.val (.string (s.extract 0 s.size)))
    | some (.val (.int _ l)), none, none => if 0 ≤ l ∧ l ≤ s.size then some (.val (.string (s.extract l.toNat s.size))) else none
    | none, some (.val (.int _ h)), none => if 0 ≤ h ∧ h ≤ s.size then some (.val (.string (s.extract 0 h.toNat))) else none
    | some (.val (.int _ l)), some (.val (.int _ h)), none => if 0 ≤ l ∧ l ≤ h ∧ h ≤ s.size then some (.val (.string (s.extract l.toNat h.toNat))) else none
    | _, _, _ => none
  | .list xs => match lo, hi, mx with
    | some (.val (.int _ l)), none, none => if 0 ≤ l ∧ l ≤ xs.length then some (.list (xs.drop l.toNat)) else none
    | none, some (.val (.int _ h)), none => if 0 ≤ h ∧ h ≤ xs.length then some (.list (xs.take h.toNat)) else none
    | some (.val (.int _ l)), some (.val (.int _ h)), none => if 0 ≤ l ∧ l ≤ h ∧ h ≤ xs.length then some (.list ((xs.take h.toNat).drop l.toNat)) else none
    | none, some (.val (.int _ 0)), some (.val (.int _ 0)) => some .nil0
    | _, _, _ => none
  | .nil0 => match lo, hi, mx with
    | none, some (.val (.int _ 0)), some (.val (.int _ 0)) => some .nil0
    | none, some (.val (.int _ 0)), none => some .nil0
    | _, _, _ => none
  | _ => none

def vval (P : Program) (ρ : Operand → AV) (H : HM) (o : Oper) : Option AV :=
  match o.op with
  | .move x | .assign x => some (ρ x)
  | .pick c a b => match ρ c with
    | .val (.bool t) => some (if t then ρ a else ρ b)
    | _ => none
  | .load t x => match tiOf P t, cellsAt H (ρ x) with
    | some ti, some cs => ldv ti cs
    | _, _ => none
  | .nilCheck x => match ρ x with
    | .ref cs => some (.ref cs)
    | .addr b off => some (.addr b off)
    | .elem b i sz off => some (.elem b i sz off)
    | _ => none
  | .binOp op t x y _ => vbin P op t (ρ x) (ρ y)
  | .unOp op _ x => match op, ρ x with
    | .not, .val (.bool b) => some (.val (.bool (!b)))
    | .neg, .val (.int k n) => some (.val (.int k (k.wrap (0 - n))))
    | _, _ => none
  | .convert src dst x => match tdAt P src, tdAt P dst, ρ x with
    | some _, some (.int k), .val (.int _ n) => some (.val (.int k (k.wrap n)))
    | some _, some .str, .val (.string s) => some (.val (.string s))
    | some _, some .str, .val (.int _ n) => if (Utf8.encode n).size ≤ lim then some (.val (.string (Utf8.encode n))) else none
    | _, _, _ => none
  | .fieldAddr t x i => match (tiOf P t).bind (fieldOf · i), ρ x with
    | some (off, fz, _), .ref cs => if fz = 0 then none else some (.ref (cs.drop off))
    | some (off, fz, _), .addr b o => if fz = 0 then none else some (.addr b (o + off))
    | some (off, fz, _), .elem b i sz o => if fz = 0 then none else some (.elem b i sz (o + off))
    | _, _ => none
  | .field t x i => match (tiOf P t).bind (fieldOf · i), ρ x with
    | some (off, sz, true), .agg cs => if off + sz ≤ cs.length then some (.agg ((cs.drop off).take sz)) else none
    | some (off, _, false), .agg cs => (cs[off]?)
    | _, _ => none
  | .indexAddr t x i => match tdAt P t, ρ x, ρ i with
    | some (.slice _ sz), .list xs, .val (.int _ i) => if 0 ≤ i then (xs[i.toNat]?).bind fun x => if x.cells.length = sz then some (.ref x.cells) else none else none
    | some (.slice _ sz), .mlist b n _, .val (.int _ i) => if 0 ≤ i ∧ i < n then some (.elem b i.toNat sz 0) else none
    | some (.arr len _ sz), .ref cs, .val (.int _ i) => if 0 ≤ i ∧ i < len then some (.ref (cs.drop (i.toNat * sz))) else none
    | _, _, _ => none
  | .index t x i => match tdAt P t, ρ x, ρ i with
    | some .str, .val (.string s), .val (.int _ i) => if 0 ≤ i then (s[i.toNat]?).map fun c => .val (.int .u8 c.toNat) else none
    | _, _, _ => none
  | .slice t x lo hi mx => match tdAt P t, ρ x with
    | some .str, .val (.string s) => vslice (lo.map ρ) (hi.map ρ) (mx.map ρ) (.val (.string s))
    | some (.slice _ sz), .list xs => if ∀ x ∈ xs, x.cells.length = sz then vslice (lo.map ρ) (hi.map ρ) (mx.map ρ) (.list xs) else none
    | some (.slice _ _), .nil0 => vslice (lo.map ρ) (hi.map ρ) (mx.map ρ) .nil0
    | _, _ => none
  | .lookup t x k ok => match tdAt P t, entriesOf H (ρ x), keyOf (ρ k) with
    | some (.map kt et), some es, some key => match tdAt P kt, tiOf P et with
      | some kd, some ei => if keyFits kd key && keysOk kd es then
          (match assoc key es with
           | some v => some (if ok then .tup [v, .bool true] else v)
           | none => some (if ok then .tup [ei.zero, .bool false] else ei.zero))
        else none
      | _, _ => none
    | _, _, _ => none
  | .extract x i => match ρ x with
    | .tup vs => vs[i]?
    | _ => none
  | .build t parts => match tiOf P t with
    | some ti => match ti.d, ti.zero with
      | .struct fs, .agg z => vbuild fs z (parts.toList.map fun p => (p.1, ρ p.2))
      | _, _ => none
    | none => none
  | .makeFunc fn first cap => some (.func fn (first.toList.map ρ) (cap.toList.map ρ))
  | .makeInterface t x => match tdAt P t with
    | some .iface | some .other | none => none
    | some _ => some (.iface t (ρ x))
  | .call c => match c.callee with
    | .builtin .len => match c.args.toList, c.argTypes.toList with
      | [x], [t] => match tdAt P t, ρ x with
        | some .str, .val (.string s) => some (.int s.size)
        | some (.slice _ _), .list xs => some (.int xs.length)
        | some (.slice _ _), .nil0 => some (.int 0)
        | some (.slice _ _), .mlist _ n _ => some (.int n)
        | some (.map _ _), .val (.map none) => some (.int 0)
        | some (.map _ _), .imap es => some (.int es.length)
        | some (.map _ _), .map b => match H b with
          | some (.map es) => some (.int es.length)
          | _ => none
        | _, _ => none
      | _, _ => none
    | .builtin .min => match c.args.toList.map ρ with
      | [.val (.int k x), .val (.int k' y)] => if k = k' then some (.val (.int k (if y < x then y else x))) else none
      | _ => none
    | .builtin .max => match c.args.toList.map ρ with
      | [.val (.int k x), .val (.int k' y)] => if k = k' then some (.val (.int k (if x < y then y else x))) else none
      | _ => none
    | _ => none
  | _ => none
where
  vbuild (fs : List (Nat × Nat × Bool)) : List AV → List (Nat × AV) → Option AV
    | z, [] => some (.agg z)
    | z, (i, v) :: rest => match fs[i]? with
      | some (off, sz, _) => if v.cells.length = sz ∧ off + sz ≤ z.length ∧ v.one = true then vbuild fs (z.take off ++ v.cells ++ z.drop (off + sz)) rest else none
      | none => none

section
variable {P : Program} {G : GT} {ρ : Operand → AV} {H : HM} {o : Oper} {v : AV} {w : World}

theorem quiet_of (h : ∀ ρc w, (∀ x ∈ o.op.operands, Rep (Imm H w) w (ρ x) (ρc x)) → St G H w → ∃ u, (execOp ρc o).run P w = .ok (.value u) w ∧ Rep (Imm H w) w v u) : VQuiet P G ρ H o v := by
  intro K hk ρc w h1 h2
  obtain ⟨u, h3, h4⟩ := h ρc w h1 h2
  rw [h3]
  exact ⟨v, H, hk, h4, h2, Evo.refl _ _⟩

theorem add_plain (b o i : Nat) : (⟨b, o, none⟩ : Addr).add i = ⟨b, o + i, none⟩ := by unfold Addr.add; split <;> simp_all
theorem cell_block {b o : Nat} {arr : Array Value} {t : TypeId} {fr : Nat × Nat} (h : w.heap[b]? = some (.cells arr t fr)) : w.cell? ⟨b, o, none⟩ = arr[o]? := by
  simp [World.cell?, h]
theorem frozen_block {b o : Nat} {arr : Array Value} {t : TypeId} (h : w.heap[b]? = some (.cells arr t (0, 0))) : w.frozen? ⟨b, o, none⟩ = false := by
  simp [World.frozen?, h]

theorem Reads.drop {ad : Addr} {vs : List Value} (h : Reads w ad vs) (hs : ad.spot = none) (n : Nat) : Reads w (ad.add n) (vs.drop n) := by
  intro i v hi
  rw [List.getElem?_drop] at hi
  obtain ⟨b, o, sp⟩ := ad
  simp only at hs
  subst hs
  have := h _ _ hi
  rw [add_plain] at this ⊢
  rw [add_plain]
  rwa [Nat.add_assoc]
theorem Reads.take {ad : Addr} {vs : List Value} (h : Reads w ad vs) (n : Nat) : Reads w ad (vs.take n) := by
  intro i v hi
  rw [List.getElem?_take] at hi
  split at hi
  · exact h i v hi
  · cases hi
theorem add_spot {ad : Addr} (h : ad.spot = none) (n : Nat) : (ad.add n).spot = none := by unfold Addr.add; split <;> simp [h]

/-- A row's element. -/
theorem row_elem {I : Nat → Prop} {xs : List AV} {vs : List Value} {sz i : Nat} {x : AV} (h : RepL I w (flat xs) vs) (hz : ∀ x ∈ xs, x.cells.length = sz) (hx : xs[i]? = some x) :
    RepL I w x.cells ((vs.drop (i * sz)).take sz) := by
  have h1 := h.drop (i * sz)
  rw [flat_drop hz] at h1
  have hlt : i < xs.length := (List.getElem?_eq_some_iff.1 hx).1
  rw [List.drop_eq_getElem_cons hlt] at h1
  have hxi : xs[i] = x := (List.getElem?_eq_some_iff.1 hx).2
  rw [hxi, flat_cons] at h1
  have := h1.of_append.1
  rwa [hz x (List.mem_of_getElem? hx)] at this

/-- Where a pointer leads. -/
theorem cellsAt_reads {a : AV} {p : Value} {cs : List AV} (h : cellsAt H a = some cs) (hr : Rep (Imm H w) w a p) (hst : St G H w) :
    ∃ ad vs, p = .pointer (some ad) ∧ ad.spot = none ∧ RepL (Imm H w) w cs vs ∧ Reads w ad vs ∧ ∀ v ∈ vs, v.oneCell' = true := by
  cases hr with
  | ref h1 h2 h3 h4 h5 => simp only [cellsAt, Option.some.injEq] at h; subst h; exact ⟨_, _, rfl, h2, h5, h3, h4⟩
  | addr b off =>
    simp only [cellsAt] at h
    split at h
    · rename_i t cs0 hb
      simp only [Option.some.injEq] at h; subst h
      obtain ⟨vs, h1, h2, h3⟩ := hst.obj _ _ hb
      refine ⟨_, vs.drop off, rfl, rfl, h2.drop off, fun i v hi => ?_, fun v hv => h3 v (List.mem_of_mem_drop hv)⟩
      rw [add_plain, cell_block h1]
      rw [List.getElem?_drop] at hi
      simpa using hi
    · cases h
  | elem b i sz off =>
    simp only [cellsAt] at h
    split at h
    · rename_i t sz' cap xs hb
      split at h
      · rename_i hsz
        subst hsz
        cases hx : xs[i]? with
        | none => rw [hx] at h; cases h
        | some x =>
          rw [hx] at h
          simp only [Option.map_some, Option.some.injEq] at h
          subst h
          obtain ⟨vs, rest, h1, h2, h3, h4, h5⟩ := hst.obj _ _ hb
          have he := (row_elem h2 h3 hx).drop off
          refine ⟨_, _, rfl, rfl, he, fun j v hj => ?_, fun v hv => h4 v (List.mem_of_mem_drop (List.mem_of_mem_take (List.mem_of_mem_drop hv)))⟩
          rw [add_plain, cell_block h1]
          rw [List.getElem?_drop, List.getElem?_take] at hj
          split at hj
          · rw [List.getElem?_drop] at hj
            have hlt := (List.getElem?_eq_some_iff.1 hj).1
            rw [List.getElem?_toArray, List.getElem?_append_left (by omega), ← hj]
            congr 1; omega
          · cases hj
      · cases h
    · cases h
  | _ => simp [cellsAt] at h

theorem run_isAgg {t : TypeId} {ti : TI} {i : TypeInfo} {d : TypeDesc} {z : Value} (h : TIs P t ti i d z) : (isAgg t).run P w = .ok ti.agg w := by
  rw [h.eq]
  simp only [isAgg, Sem.run_bind, run_underlying h.und, Result.andThen]
  cases d <;> simp [TI.agg, tdOf]
theorem run_sizeOf' {t : TypeId} {ti : TI} {i : TypeInfo} {d : TypeDesc} {z : Value} (h : TIs P t ti i d z) : (sizeOf t).run P w = .ok ti.size w := by
  rw [h.eq]
  simp [sizeOf, run_typeInfo _ h.info, Result.andThen]
theorem run_zeroValue' {t : TypeId} {ti : TI} {i : TypeInfo} {d : TypeDesc} {z : Value} (h : TIs P t ti i d z) : (zeroValue t).run P w = .ok z w := by
  simp [zeroValue, run_typeInfo _ h.info, Result.andThen, h.zero]

theorem run_loadVar_ldv {t : TypeId} {ti : TI} {cs : List AV} {vs : List Value} {ad : Addr} (ht : tiOf P t = some ti) (hl : ldv ti cs = some v) (hr : RepL (Imm H w) w cs vs) (hm : Reads w ad vs)
    (h1 : ∀ v ∈ vs, v.oneCell' = true) : ∃ u, (loadVar t ad).run P w = .ok u w ∧ Rep (Imm H w) w v u := by
  obtain ⟨i, d, z, hi⟩ := tiOf_some ht
  simp only [loadVar, Sem.run_bind, run_isAgg hi, Result.andThen, run_sizeOf' hi]
  unfold ldv at hl
  cases ha : ti.agg with
  | true =>
    rw [if_pos ha] at hl
    split at hl
    · rename_i hle
      simp only [Option.some.injEq] at hl
      subst hl
      have hlen := hr.length
      have hc := run_loadCells_list (P := P) (w := w) ad (vs.take ti.size) (fun j u hj => (hm.take _) j u hj)
      rw [List.length_take, Nat.min_eq_left (by omega)] at hc
      simp only [if_true, Sem.run_ite, Sem.run_bind, run_sizeOf' hi, Result.andThen, hc, Sem.run_pure]
      exact ⟨_, rfl, .agg (fun v hv => h1 v (List.mem_of_mem_take hv)) (hr.take _)⟩
    · cases hl
  | false =>
    rw [if_neg (by simp [ha])] at hl
    cases cs with
    | nil => cases hl
    | cons c cs =>
      simp only [List.head?_cons, Option.some.injEq] at hl
      subst hl
      cases hr with
      | cons h hs =>
        rename_i u us
        have := hm 0 u rfl
        rw [show ad.add 0 = ad from by simp [Addr.add]] at this
        refine ⟨u, ?_, h⟩
        simp [this]

theorem tdAt_some {t : TypeId} {d : TD} (h : tdAt P t = some d) : ∃ ti i dd z, TIs P t ti i dd z ∧ tdOf P dd = d := by
  unfold tdAt at h
  cases ht : tiOf P t with
  | none => rw [ht] at h; cases h
  | some ti =>
    obtain ⟨i, dd, z, hi⟩ := tiOf_some ht
    rw [ht] at h
    simp only [Option.map_some, Option.some.injEq] at h
    exact ⟨ti, i, dd, z, hi, by rw [hi.eq] at h; exact h⟩

theorem bytes_eq (a b : ByteArray) : (a.toList == b.toList) = decide (a = b) := by
  rw [Bool.eq_iff_iff]
  simp only [beq_iff_eq, decide_eq_true_eq]
  constructor
  · intro h
    rw [ByteArray.toList_eq, ByteArray.toList_eq] at h
    cases a; cases b
    simpa using h
  · rintro rfl; rfl

theorem run_eqGuard {op : BinOp} {t : TypeId} {X Y : Operand} {a b : Value} (h1 : a ≠ .nilIface) (h2 : ∀ cs, a ≠ .agg cs) : (eqGuard op t X Y a b).run P w = .ok () w := by
  unfold eqGuard
  cases a <;> cases b <;> first | (exact absurd rfl h1) | (exact absurd rfl (h2 _)) | (simp; done) | (simp; split <;> rfl)

theorem beq_dec (a b : Int) : (a == b) = decide (a = b) := by rw [Bool.eq_iff_iff]; simp
theorem bin_int {op : BinOp} {t : TypeId} {k : IntKind} {a b : Int} (h : vbin P op t (.val (.int k a)) (.val (.int k b)) = some v) :
    ∃ u, (binOp op t (.int k a) (.int k b)).run P w = .ok u w ∧ v = .val u ∧ okV u := by
  simp only [vbin, if_true] at h
  cases op <;> simp only [reduceCtorEq, Option.some.injEq] at h
  case quo =>
    split at h
    · cases h
    · rename_i hz; simp only [Option.some.injEq] at h; exact ⟨_, by simp [binOp, Op.intDiv, hz], h.symm, trivial⟩
  case rem =>
    split at h
    · cases h
    · rename_i hz; simp only [Option.some.injEq] at h; exact ⟨_, by simp [binOp, Op.intDiv, hz], h.symm, trivial⟩
  all_goals
    subst h
    refine ⟨_, ?_, rfl, trivial⟩
    simp only [binOp, Op.intArith, Op.intCmp, Sem.run_pure, ne_eq, not_true_eq_false, if_false, bne, beq_dec]
    try rfl

theorem bin_str {op : BinOp} {t : TypeId} {a b : ByteArray} (h : vbin P op t (.val (.string a)) (.val (.string b)) = some v) :
    ∃ u, (binOp op t (.string a) (.string b)).run P w = .ok u w ∧ v = .val u ∧ okV u := by
  simp only [vbin] at h
  cases op <;> simp only [reduceCtorEq, Option.some.injEq] at h
  case add =>
    split at h
    · rename_i hz
      simp only [Option.some.injEq] at h
      refine ⟨.string (a ++ b), ?_, h.symm, ?_⟩
      · have : ¬ (((a.size + b.size : Nat) : Int) > IntKind.i64.max) := by
          have : IntKind.i64.max = 9223372036854775807 := by decide
          unfold lim at hz; omega
        simp only [binOp, Op.stringOp, if_neg this, Sem.run_pure]
      · show (a ++ b).size ≤ lim
        rw [ByteArray.size_append]; exact hz
    · cases h
  all_goals
    subst h
    refine ⟨_, ?_, rfl, trivial⟩
    simp only [binOp, Op.stringOp, bytes_eq, Sem.run_pure, strLt]

theorem run_underlying' {t : TypeId} {d : TypeDesc} (h : P.underlying t = some d) : (underlying t).run P w = .ok d w := run_underlying h w

theorem equalIn_bool {t : TypeId} (h : P.underlying t = some .bool) (d : Nat) (a b : Bool) : (Op.equalIn (d + 1) t (.bool a) (.bool b)).run P w = .ok (a == b) w := by
  simp only [Op.equalIn, Sem.run_bind, run_underlying' h, Result.andThen, Sem.run_pure]
theorem equalIn_map {t k e : TypeId} (h : P.underlying t = some (.map k e)) (d : Nat) (a : Option Nat) : (Op.equalIn (d + 1) t (.map a) (.map none)).run P w = .ok a.isNone w := by
  cases a <;> simp only [Op.equalIn, Sem.run_bind, run_underlying' h, Result.andThen, Sem.run_pure, Option.isNone_none, Option.isNone_some]
theorem equalIn_ptr {t e : TypeId} (h : P.underlying t = some (.pointer e)) (d : Nat) (a : Option Addr) : (Op.equalIn (d + 1) t (.pointer a) (.pointer none)).run P w = .ok a.isNone w := by
  cases a <;> simp only [Op.equalIn, Sem.run_bind, run_underlying' h, Result.andThen, Sem.run_pure, Option.isNone_none, Option.isNone_some]

theorem bin_bool {op : BinOp} {t : TypeId} {a b : Bool} (h : vbin P op t (.val (.bool a)) (.val (.bool b)) = some v) :
    ∃ u, (binOp op t (.bool a) (.bool b)).run P w = .ok u w ∧ v = .val u ∧ okV u := by
  simp only [vbin] at h
  cases hd : tdAt P t with
  | none => rw [hd] at h; cases op <;> cases h
  | some d =>
    obtain ⟨ti, i, dd, z, hi, hdd⟩ := tdAt_some hd
    rw [hd] at h
    cases d <;> cases op <;> simp only [reduceCtorEq, Option.some.injEq] at h
    all_goals
      subst h
      refine ⟨_, ?_, rfl, trivial⟩
      cases dd <;> simp only [tdOf, reduceCtorEq] at hdd
      simp only [binOp, Sem.run_bind, Op.equal, equalIn_bool hi.und 9999, Op.maxDepth, Result.andThen, Sem.run_pure]
theorem bin_nil {t : TypeId} {x : AV} {d : TD} {n a : Value} {b : Bool} (hn : vnil d x n = some b) (hd : tdAt P t = some d) (hr : Rep (Imm H w) w x a) :
    (binOp .eql t a n).run P w = .ok (.bool b) w ∧ (binOp .neq t a n).run P w = .ok (.bool (!b)) w ∧ a ≠ .nilIface ∧ ∀ cs, a ≠ .agg cs := by
  obtain ⟨ti, i, dd, z, hi, hdd⟩ := tdAt_some hd
  unfold vnil at hn
  split at hn <;> simp only [reduceCtorEq, Option.some.injEq] at hn <;> subst hn <;> cases hr <;> cases dd <;> simp only [tdOf, reduceCtorEq] at hdd <;>
    (refine ⟨?_, ?_, by simp, by simp⟩ <;>
      first
      | simp only [binOp, Sem.run_bind, Op.equal, equalIn_map hi.und 9999, Op.maxDepth, Result.andThen, Sem.run_pure, Option.isNone_none, Option.isNone_some, Bool.not_true, Bool.not_false]
      | simp only [binOp, Sem.run_bind, Op.equal, equalIn_ptr hi.und 9999, Op.maxDepth, Result.andThen, Sem.run_pure, Option.isNone_none, Option.isNone_some, Bool.not_true, Bool.not_false])

theorem quiet_bin {op : BinOp} {t : TypeId} {x y : AV} {a b : Value} {X Y : Operand} (h : vbin P op t x y = some v) (ha : Rep (Imm H w) w x a) (hb : Rep (Imm H w) w y b) :
    ∃ u, (do eqGuard op t X Y a b; binOp op t a b : Sem Value).run P w = .ok u w ∧ Rep (Imm H w) w v u := by
  have fin : (∃ u, (binOp op t a b).run P w = .ok u w ∧ v = .val u ∧ okV u) → a ≠ .nilIface → (∀ cs, a ≠ .agg cs) →
      ∃ u, (do eqGuard op t X Y a b; binOp op t a b : Sem Value).run P w = .ok u w ∧ Rep (Imm H w) w v u := by
    rintro ⟨u, e1, rfl, e2⟩ e3 e4
    refine ⟨u, ?_, .val _ e2⟩
    simp only [Sem.run_bind, run_eqGuard e3 e4, Result.andThen, e1]
  have h0 := h
  unfold vbin at h
  split at h
  · cases ha.val_eq; cases hb.val_eq
    split at h
    · rename_i e; subst e
      exact fin (bin_int h0) (by simp) (by simp)
    · cases h
  · cases ha.val_eq; cases hb.val_eq
    exact fin (bin_str h0) (by simp) (by simp)
  · cases ha.val_eq; cases hb.val_eq
    exact fin (bin_bool h0) (by simp) (by simp)
  · cases hb.val_eq
    split at h
    · rename_i d hd
      cases hn : vnil d x _ with
      | none => rw [hn] at h; cases h
      | some q =>
        rw [hn] at h
        simp only [Option.map_some, Option.some.injEq] at h
        have := bin_nil hn hd ha
        exact fin ⟨_, this.1, h.symm, trivial⟩ this.2.2.1 this.2.2.2
    · rename_i d hd
      cases hn : vnil d x _ with
      | none => rw [hn] at h; cases h
      | some q =>
        rw [hn] at h
        simp only [Option.map_some, Option.some.injEq] at h
        have := bin_nil hn hd ha
        exact fin ⟨_, this.2.1, h.symm, trivial⟩ this.2.2.1 this.2.2.2
    · cases h
  · cases h

theorem RepL.zip {es : List (AV × AV)} {ents : List MapEntry} (hk : RepL (Imm H w) w (es.map (·.1)) (ents.map (·.key))) (hv : RepL (Imm H w) w (es.map (·.2)) (ents.map (·.val))) :
    es.length = ents.length := by
  have := hk.length
  simpa using this

theorem find_assoc {kd : TypeDesc} {key : Value} (hf : keyFits (tdOf P kd) key = true) : ∀ {es : List (AV × AV)} {ents : List MapEntry} (i : Nat),
    RepL (Imm H w) w (es.map (·.1)) (ents.map (·.key)) → RepL (Imm H w) w (es.map (·.2)) (ents.map (·.val)) → keysOk (tdOf P kd) es = true →
    (match assoc key es with
     | some v => ∃ j u, Instr.findNow kd key ents i = some (some (j, u)) ∧ Rep (Imm H w) w v u
     | none => Instr.findNow kd key ents i = some none)
  | [], [], i, _, _, _ => rfl
  | [], _ :: _, i, h, _, _ => by cases h
  | _ :: _, [], i, h, _, _ => by cases h
  | (k, x) :: es, e :: ents, i, hk, hv, ho => by
    cases hk with
    | cons hk1 hk2 =>
      cases hv with
      | cons hv1 hv2 =>
        simp only [keysOk, List.all_cons, Bool.and_eq_true] at ho
        cases k with
        | val u =>
          simp only at ho
          have hu : e.key = u := hk1.val_eq
          have ih := find_assoc hf (es := es) (ents := ents) (i + 1) hk2 hv2 ho.2
          have hs : Instr.sameNow kd key e.key = some (sameKeyV key u) := by
            rw [hu]
            have h1 := ho.1
            cases kd <;> simp only [tdOf, keyFits] at hf h1 <;> try (cases hf; done)
            all_goals (cases key <;> simp only [keyFits] at hf <;> try (cases hf; done))
            all_goals (cases u <;> simp only [keyFits] at h1 <;> try (cases h1; done))
            all_goals simp_all [Instr.sameNow, sameKeyV]
          simp only [assoc, Instr.findNow, hs]
          cases hq : sameKeyV key u with
          | true => simp only [if_true]; exact ⟨_, _, rfl, hv1⟩
          | false => simpa using ih
        | _ => simp at ho

theorem run_checkKey {t : TypeId} {kd : TypeDesc} {key : Value} (h : P.underlying t = some kd) (hf : keyFits (tdOf P kd) key = true) (b : Bool) (n : Nat) : (Instr.checkKey b (n + 1) t key).run P w = .ok () w := by
  simp only [Instr.checkKey, Sem.run_bind, run_underlying' h, Result.andThen]
  cases kd <;> simp only [tdOf, keyFits] at hf <;> try (cases hf; done)
  all_goals (cases key <;> simp only [keyFits] at hf <;> try (cases hf; done))
  all_goals rfl

theorem entries_get {a : AV} {m : Value} {es : List (AV × AV)} (h : entriesOf H a = some es) (hr : Rep (Imm H w) w a m) (hst : St G H w) :
    ∃ ents : Array MapEntry, RepL (Imm H w) w (es.map (·.1)) (ents.toList.map (·.key)) ∧ RepL (Imm H w) w (es.map (·.2)) (ents.toList.map (·.val)) ∧
      ((m = .map none ∧ ents = #[]) ∨ ∃ r c, m = .map (some r) ∧ w.heap[r]? = some (.map ents c)) := by
  unfold entriesOf at h
  split at h
  · cases h; cases hr.val_eq; exact ⟨#[], .nil, .nil, .inl ⟨rfl, rfl⟩⟩
  · cases h
    cases hr with
    | imap h1 h2 h0 h3 h4 => exact ⟨_, h3, h4, .inr ⟨_, _, rfl, h2⟩⟩
  · split at h
    · cases h
      rename_i hb
      cases hr
      obtain ⟨ents, c, h1, h2, h3⟩ := hst.obj _ _ hb
      exact ⟨ents, h2, h3.1, .inr ⟨_, c, rfl, h1⟩⟩
    · cases h
  · cases h

theorem key_eq {a : AV} {k v : Value} (h : keyOf a = some k) (hr : Rep (Imm H w) w a v) : v = k := by
  unfold keyOf at h
  split at h <;> first | (cases h; exact hr.val_eq) | cases h

theorem run_getMap {r : Nat} {ents : Array MapEntry} {c : Nat} (h : w.heap[r]? = some (.map ents c)) : (getObj r).run P w = .ok (.map ents c) w := by
  simp [getObj, Sem.run, h]

theorem rep_tup2 {I : Nat → Prop} {a b : AV} {u v : Value} (ha : Rep I w a u) (hb : Rep I w b v) : Rep I w (.tup [a, b]) (.tuple #[u, v]) := .tup (.cons ha (.cons hb .nil))

theorem quiet_lookup {t : TypeId} {ok : Bool} {x k : AV} {m kv : Value} {kt et : Nat} {es : List (AV × AV)} {key : Value} {kd : TD} {ei : TI}
    (h1 : tdAt P t = some (.map kt et)) (h2 : entriesOf H x = some es) (h3 : keyOf k = some key) (h4 : tdAt P kt = some kd) (h5 : tiOf P et = some ei)
    (h6 : keyFits kd key = true) (h7 : keysOk kd es = true)
    (hv : (match assoc key es with | some v => some (if ok then AV.tup [v, .bool true] else v) | none => some (if ok then AV.tup [ei.zero, .bool false] else ei.zero)) = some v)
    (hm : Rep (Imm H w) w x m) (hk : Rep (Imm H w) w k kv) (hst : St G H w) :
    ∃ u, (Instr.lookup t m kv ok).run P w = .ok u w ∧ Rep (Imm H w) w v u := by
  obtain ⟨ti, i, dd, z, hi, hd⟩ := tdAt_some h1
  obtain ⟨ki, ii, kdd, kz, hki, hkd⟩ := tdAt_some h4
  obtain ⟨iE, dE, zE, hE⟩ := tiOf_some h5
  cases dd <;> simp only [tdOf, reduceCtorEq] at hd
  rename_i kt0 et0
  injection hd with e1 e2
  subst e1 e2 hkd
  have hkey := key_eq h3 hk
  subst hkey
  obtain ⟨ents, r1, r2, hcase⟩ := entries_get h2 hm hst
  have hfind := find_assoc h6 (i := 0) r1 r2 h7
  have hz : Rep (Imm H w) w ei.zero zE := by rw [hE.eq]; exact rep_cst hE.ok
  have hck := run_checkKey (P := P) (w := w) hki.und h6 ents.isEmpty 9999
  have hfk : ∀ r, Instr.findNow kdd kv ents.toList 0 = some r → (Instr.findKey kt0 kv ents.toList).run P w = .ok r w := by
    intro r hr
    simp only [Instr.findKey, Sem.run_bind, run_underlying' hki.und, Result.andThen, hr, Sem.run_pure]
  have fin : ∀ r : Value × Bool, (match assoc kv es with
      | some v => ∃ j u, Instr.findNow kdd kv ents.toList 0 = some (some (j, u)) ∧ r = (u, true)
      | none => Instr.findNow kdd kv ents.toList 0 = some none ∧ r = (zE, false)) →
      (Instr.lookup t m kv ok).run P w = .ok (if ok then .tuple #[r.1, .bool r.2] else r.1) w := by
    intro r hr
    rcases hcase with ⟨rfl, rfl⟩ | ⟨rr, c, rfl, hg⟩
    · unfold Instr.lookup
      cases ha : assoc kv es with
      | some v =>
        rw [ha] at hr
        obtain ⟨j, u, e1, rfl⟩ := hr
        simp only [Sem.run_bind, run_underlying' hi.und, Result.andThen, Sem.run_pure, hck, hfk _ e1]
        try (cases ok <;> rfl)
      | none =>
        rw [ha] at hr
        obtain ⟨e1, rfl⟩ := hr
        simp only [Sem.run_bind, run_underlying' hi.und, Result.andThen, Sem.run_pure, hck, hfk _ e1, run_zeroValue' hE]
        try (cases ok <;> rfl)
    · unfold Instr.lookup
      cases ha : assoc kv es with
      | some v =>
        rw [ha] at hr
        obtain ⟨j, u, e1, rfl⟩ := hr
        simp only [Sem.run_bind, run_underlying' hi.und, Result.andThen, Sem.run_pure, hck, hfk _ e1, run_getMap hg]
        try (cases ok <;> rfl)
      | none =>
        rw [ha] at hr
        obtain ⟨e1, rfl⟩ := hr
        simp only [Sem.run_bind, run_underlying' hi.und, Result.andThen, Sem.run_pure, hck, hfk _ e1, run_zeroValue' hE, run_getMap hg]
        try (cases ok <;> rfl)
  cases ha : assoc kv es with
  | some v' =>
    rw [ha] at hv hfind fin
    simp only [Option.some.injEq] at hv
    subst hv
    obtain ⟨j, u, e1, e2⟩ := hfind
    refine ⟨_, fin (u, true) ⟨j, u, e1, rfl⟩, ?_⟩
    cases ok
    · exact e2
    · exact rep_tup2 e2 (.val _ trivial)
  | none =>
    rw [ha] at hv hfind fin
    simp only [Option.some.injEq] at hv
    subst hv
    refine ⟨_, fin (zE, false) ⟨hfind, rfl⟩, ?_⟩
    cases ok
    · exact hz
    · exact rep_tup2 hz (.val _ trivial)

theorem struct_field {dd : TypeDesc} {i off sz : Nat} {ag : Bool} {ti : TI} {ii : TypeInfo} {z : Value} {t : TypeId} (hi : TIs P t ti ii dd z) (h : fieldOf ti i = some (off, sz, ag)) :
    ∃ (fs : Array Field) (f : Field) (j : TypeInfo) (fd : TypeDesc), dd = .struct fs ∧ fs[i]? = some f ∧ f.offset = off ∧ P.info? f.type = some j ∧ j.size = sz ∧ P.underlying f.type = some fd ∧ isAggB P f.type = ag := by
  unfold fieldOf at h
  rw [hi.eq] at h
  cases dd <;> simp only [tdOf, reduceCtorEq] at h
  rename_i fs
  rw [List.getElem?_map] at h
  cases hf : fs.toList[i]? with
  | none => rw [hf] at h; cases h
  | some f =>
    rw [hf] at h
    simp only [Option.map_some, Option.some.injEq, Prod.mk.injEq] at h
    obtain ⟨e1, e2, e3⟩ := h
    have hall := hi.all
    simp only [allInfo, List.all_eq_true, Bool.and_eq_true] at hall
    obtain ⟨a1, a2⟩ := hall f (List.mem_of_getElem? hf)
    obtain ⟨j, hj⟩ := Option.isSome_iff_exists.1 a1
    obtain ⟨fd, hfd⟩ := Option.isSome_iff_exists.1 a2
    exact ⟨fs, f, j, fd, rfl, by simpa using hf, e1, hj, by simpa [szOf, hj] using e2, hfd, e3⟩

theorem run_isAggB {t : TypeId} {d : TypeDesc} (h : P.underlying t = some d) : (isAgg t).run P w = .ok (isAggB P t) w := by
  simp only [isAgg, Sem.run_bind, run_underlying h, Result.andThen, isAggB, h]
  cases d <;> rfl
theorem run_sizeOf2 {t : TypeId} {i : TypeInfo} (h : P.info? t = some i) : (sizeOf t).run P w = .ok i.size w := by
  simp [sizeOf, run_typeInfo _ h, Result.andThen]

theorem quiet_field {t : TypeId} {i off sz : Nat} {ag : Bool} {cs : List AV} {x : Value} (h : (tiOf P t).bind (fieldOf · i) = some (off, sz, ag)) (hr : Rep (Imm H w) w (.agg cs) x)
    (hv : (if ag then (if off + sz ≤ cs.length then some (AV.agg ((cs.drop off).take sz)) else none) else cs[off]?) = some v) :
    ∃ u, (Instr.field t x i).run P w = .ok u w ∧ Rep (Imm H w) w v u := by
  cases ht : tiOf P t with
  | none => rw [ht] at h; cases h
  | some ti =>
    rw [ht] at h
    obtain ⟨ii, dd, z, hi⟩ := tiOf_some ht
    obtain ⟨fs, f, j, fd, rfl, hf, rfl, hj, rfl, hfd, rfl⟩ := struct_field hi h
    cases hr with
    | agg h1 h2 =>
      rename_i vs
      simp only [Instr.field, Sem.run_bind, run_underlying' hi.und, Result.andThen, hf, asAgg, Sem.run_pure, part, run_isAggB hfd]
      cases ha : isAggB P f.type with
      | true =>
        rw [ha, if_pos rfl] at hv
        split at hv
        · simp only [Option.some.injEq] at hv
          subst hv
          simp only [if_true, Sem.run_bind, run_sizeOf2 hj, Result.andThen, Sem.run_pure]
          refine ⟨_, rfl, ?_⟩
          have e : vs.toArray.extract f.offset (f.offset + j.size) = ((vs.drop f.offset).take j.size).toArray := by
            apply Array.ext'
            simp [List.extract_eq_take_drop]
          rw [e]
          exact .agg (fun u hu => h1 u (List.mem_of_mem_drop (List.mem_of_mem_take hu))) ((h2.drop _).take _)
        · cases hv
      | false =>
        rw [ha, if_neg (by simp)] at hv
        obtain ⟨u, e1, e2⟩ := h2.get _ _ hv
        refine ⟨u, ?_, e2⟩
        simp only [Bool.false_eq_true, if_false]
        have : vs.toArray[f.offset]? = some u := by simpa using e1
        simp only [this, Sem.run_pure]

theorem quiet_fieldAddr {t : TypeId} {i off sz : Nat} {ag : Bool} {ad : Addr} (h : (tiOf P t).bind (fieldOf · i) = some (off, sz, ag)) (hz : sz ≠ 0) :
    (Instr.fieldAt t (.pointer (some ad)) i).run P w = .ok (.pointer (some (ad.add off))) w := by
  cases ht : tiOf P t with
  | none => rw [ht] at h; cases h
  | some ti =>
    rw [ht] at h
    obtain ⟨ii, dd, z, hi⟩ := tiOf_some ht
    obtain ⟨fs, f, j, fd, rfl, hf, rfl, hj, rfl, hfd, rfl⟩ := struct_field hi h
    simp only [Instr.fieldAt, Sem.run_bind, run_underlying' hi.und, Result.andThen, hf, Instr.sureAddr, Sem.run_pure, fieldPlace, run_sizeOf2 hj, if_neg hz]

theorem rep_ref_drop {cs : List AV} {p : Value} (h : Rep (Imm H w) w (.ref cs) p) (n : Nat) : ∃ ad, p = .pointer (some ad) ∧ Rep (Imm H w) w (.ref (cs.drop n)) (.pointer (some (ad.add n))) := by
  cases h with
  | ref h1 h2 h3 h4 h5 => exact ⟨_, rfl, .ref (fun hn => by rw [Addr.add_block]; exact h1 (by rintro rfl; simp at hn)) (add_spot h2 n) (h3.drop h2 n) (fun u hu => h4 u (List.mem_of_mem_drop hu)) (h5.drop n)⟩

theorem slice_info {t e sz : Nat} (h : tdAt P t = some (.slice e sz)) : P.underlying t = some (.slice e) ∧ (sizeOf e).run P w = .ok sz w := by
  obtain ⟨ti, i, dd, z, hi, hd⟩ := tdAt_some h
  cases dd <;> simp only [tdOf, reduceCtorEq] at hd
  injection hd with e1 e2
  subst e1
  have := hi.all
  simp only [allInfo] at this
  obtain ⟨j, hj⟩ := Option.isSome_iff_exists.1 this
  refine ⟨hi.und, ?_⟩
  rw [run_sizeOf2 hj]
  simp only [szOf, hj] at e2
  rw [e2]
theorem arr_info {t n e sz : Nat} (h : tdAt P t = some (.arr n e sz)) : P.underlying t = some (.array n e) ∧ (sizeOf e).run P w = .ok sz w := by
  obtain ⟨ti, i, dd, z, hi, hd⟩ := tdAt_some h
  cases dd <;> simp only [tdOf, reduceCtorEq] at hd
  injection hd with e0 e1 e2
  subst e0 e1
  have := hi.all
  simp only [allInfo] at this
  obtain ⟨j, hj⟩ := Option.isSome_iff_exists.1 this
  refine ⟨hi.und, ?_⟩
  rw [run_sizeOf2 hj]
  simp only [szOf, hj] at e2
  rw [e2]

/-- An element's place in a list that is known by value. -/
theorem rep_elem {xs : List AV} {s : Value} {i : Nat} {x : AV} (hr : Rep (Imm H w) w (.list xs) s) (hx : xs[i]? = some x) :
    ∃ ad cap, s = .slice (some ad) xs.length cap ∧ Rep (Imm H w) w (.ref x.cells) (.pointer (some (ad.add (i * x.cells.length)))) := by
  cases hr with
  | nil a cap => simp at hx
  | list h1 h2 h3 h4 h5 h6 h7 h8 =>
    rename_i vs ad cap sz
    have hz := h3 x (List.mem_of_getElem? hx)
    subst hz
    have he := row_elem h8 h3 hx
    exact ⟨ad, cap, rfl, .ref (fun hn => by rw [Addr.add_block]; exact h1 (by rintro rfl; simp at hn)) (add_spot h2 _) (((h4.drop h2 _)).take _) (fun u hu => h5 u (List.mem_of_mem_drop (List.mem_of_mem_take hu))) he⟩

theorem quiet_indexAddr {t e sz : Nat} {xs : List AV} {s : Value} {k : IntKind} {i : Int} {x : AV} (ht : tdAt P t = some (.slice e sz)) (hr : Rep (Imm H w) w (.list xs) s) (h0 : 0 ≤ i)
    (hx : xs[i.toNat]? = some x) (hz : x.cells.length = sz) : ∃ u, (Instr.indexAt t s (.int k i)).run P w = .ok u w ∧ Rep (Imm H w) w (.ref x.cells) u := by
  obtain ⟨ad, cap, rfl, hrep⟩ := rep_elem hr hx
  obtain ⟨hu, hs⟩ := slice_info (w := w) ht
  have hlt : i.toNat < xs.length := (List.getElem?_eq_some_iff.1 hx).1
  refine ⟨_, ?_, hrep⟩
  simp only [Instr.indexAt, asIntOf, Sem.run_bind, Sem.run_pure, Result.andThen, run_underlying hu, Bool.and_false, Sem.run_ite, hs]
  rw [if_pos ⟨h0, by omega⟩, hz]

theorem quiet_indexAddr_m {t e sz b n cap : Nat} {s : Value} {k : IntKind} {i : Int} (ht : tdAt P t = some (.slice e sz)) (hr : Rep (Imm H w) w (.mlist b n cap) s) (h0 : 0 ≤ i) (h1 : i < n) :
    ∃ u, (Instr.indexAt t s (.int k i)).run P w = .ok u w ∧ Rep (Imm H w) w (.elem b i.toNat sz 0) u := by
  cases hr
  obtain ⟨hu, hs⟩ := slice_info (w := w) ht
  refine ⟨_, ?_, .elem _ _ _ _⟩
  simp only [Instr.indexAt, asIntOf, Sem.run_bind, Sem.run_pure, Result.andThen, run_underlying hu, Bool.and_false, Sem.run_ite, hs]
  rw [if_pos ⟨h0, h1⟩, add_plain]
  simp

theorem quiet_indexAddr_a {t len e sz : Nat} {cs : List AV} {s : Value} {k : IntKind} {i : Int} (ht : tdAt P t = some (.arr len e sz)) (hr : Rep (Imm H w) w (.ref cs) s) (h0 : 0 ≤ i) (h1 : i < len) :
    ∃ u, (Instr.indexAt t s (.int k i)).run P w = .ok u w ∧ Rep (Imm H w) w (.ref (cs.drop (i.toNat * sz))) u := by
  obtain ⟨ad, rfl, hrep⟩ := rep_ref_drop hr (i.toNat * sz)
  obtain ⟨hu, hs⟩ := arr_info (w := w) ht
  refine ⟨_, ?_, hrep⟩
  simp only [Instr.indexAt, asIntOf, Sem.run_bind, Sem.run_pure, Result.andThen, run_underlying hu, Instr.sureAddr, Sem.run_ite, hs]
  rw [if_pos ⟨h0, h1⟩]

theorem td_str {t : TypeId} (h : tdAt P t = some .str) : P.underlying t = some .string := by
  obtain ⟨ti, i, dd, z, hi, hd⟩ := tdAt_some h
  cases dd <;> simp only [tdOf, reduceCtorEq] at hd
  exact hi.und
theorem td_int {t : TypeId} {k : IntKind} (h : tdAt P t = some (.int k)) : P.underlying t = some (.int k) := by
  obtain ⟨ti, i, dd, z, hi, hd⟩ := tdAt_some h
  cases dd <;> simp only [tdOf, reduceCtorEq] at hd
  injection hd with e; subst e
  exact hi.und
theorem td_map {t a b : Nat} (h : tdAt P t = some (.map a b)) : P.underlying t = some (.map a b) := by
  obtain ⟨ti, i, dd, z, hi, hd⟩ := tdAt_some h
  cases dd <;> simp only [tdOf, reduceCtorEq] at hd
  injection hd with e e'; subst e e'
  exact hi.und
theorem td_any {t : TypeId} {d : TD} (h : tdAt P t = some d) : ∃ dd, P.underlying t = some dd := by
  obtain ⟨ti, i, dd, z, hi, hd⟩ := tdAt_some h
  exact ⟨dd, hi.und⟩

theorem run_sliceBound {k : IntKind} {i : Int} {y : Nat} {c : BoundsCode} (h0 : 0 ≤ i) (h1 : i ≤ y) : (Instr.sliceBound (.int k i) y c).run P w = .ok i.toNat w := by
  simp only [Instr.sliceBound, asIntOf, Sem.run_bind, Sem.run_pure, Result.andThen, Sem.run_ite]
  rw [if_pos ⟨h0, h1⟩]

theorem extract_size_le (s : ByteArray) (a b : Nat) : (s.extract a b).size ≤ s.size := by
  rw [ByteArray.size_extract]; omega

theorem quiet_slice_str {t : TypeId} {s : ByteArray} {lo hi mx : Option AV} {l h m : Option Value} (ht : tdAt P t = some .str) (hs : s.size ≤ lim)
    (hv : vslice lo hi mx (.val (.string s)) = some v) (hl : ∀ a, lo = some a → ∃ x, l = some x ∧ Rep (Imm H w) w a x) (hln : lo = none → l = none)
    (hh : ∀ a, hi = some a → ∃ x, h = some x ∧ Rep (Imm H w) w a x) (hhn : hi = none → h = none) (hmn : mx = none → m = none) :
    ∃ u, (Instr.sliceAt t (.string s) l h m).run P w = .ok u w ∧ Rep (Imm H w) w v u := by
  have hu := td_str ht
  unfold vslice at hv
  simp only at hv
  split at hv
  · cases hln rfl; cases hhn rfl; cases hmn rfl
    simp only [Option.some.injEq] at hv; subst hv
    refine ⟨.string (s.extract 0 s.size), ?_, .val _ (Nat.le_trans (extract_size_le _ _ _) hs)⟩
    simp [Instr.sliceAt, Instr.slice, run_underlying hu, Result.andThen, Instr.sliceBounds]
  · cases hhn rfl; cases hmn rfl
    obtain ⟨x, rfl, hx⟩ := hl _ rfl
    cases hx.val_eq
    split at hv
    · rename_i hb
      simp only [Option.some.injEq] at hv; subst hv
      refine ⟨_, ?_, .val _ (Nat.le_trans (extract_size_le _ _ _) hs)⟩
      simp [Instr.sliceAt, Instr.slice, run_underlying hu, Result.andThen, Instr.sliceBounds, run_sliceBound hb.1 hb.2]
    · cases hv
  · cases hln rfl; cases hmn rfl
    obtain ⟨x, rfl, hx⟩ := hh _ rfl
    cases hx.val_eq
    split at hv
    · rename_i hb
      simp only [Option.some.injEq] at hv; subst hv
      refine ⟨_, ?_, .val _ (Nat.le_trans (extract_size_le _ _ _) hs)⟩
      simp [Instr.sliceAt, Instr.slice, run_underlying hu, Result.andThen, Instr.sliceBounds, run_sliceBound hb.1 hb.2]
    · cases hv
  · cases hmn rfl
    obtain ⟨x, rfl, hx⟩ := hl _ rfl
    obtain ⟨y, rfl, hy⟩ := hh _ rfl
    cases hx.val_eq; cases hy.val_eq
    split at hv
    · rename_i hb
      simp only [Option.some.injEq] at hv; subst hv
      refine ⟨_, ?_, .val _ (Nat.le_trans (extract_size_le _ _ _) hs)⟩
      have h1 : (0 : Int) ≤ _ := Int.le_trans hb.1 hb.2.1
      simp [Instr.sliceAt, Instr.slice, run_underlying hu, Result.andThen, Instr.sliceBounds, run_sliceBound h1 hb.2.2, run_sliceBound hb.1 (show _ ≤ ((_ : Nat) : Int) by rw [Int.toNat_of_nonneg h1]; exact hb.2.1)]
    · cases hv
  · cases hv

/-- A part of a list that is known by value. -/
theorem rep_sub {xs : List AV} {a : Option Addr} {cap l m : Nat} (hr : Rep (Imm H w) w (.list xs) (.slice a xs.length cap)) (hl : l ≤ m) (hm : m ≤ xs.length) (sz : Nat) (hz : ∀ x ∈ xs, x.cells.length = sz) :
    Rep (Imm H w) w (.list ((xs.take m).drop l)) (.slice (if cap = l then a else a.map (·.add (l * sz))) (m - l) (cap - l)) := by
  have hlen : ((xs.take m).drop l).length = m - l := by simp; omega
  by_cases he : m - l = 0
  · have : (xs.take m).drop l = [] := List.eq_nil_of_length_eq_zero (by omega)
    rw [this, he]; exact .nil _ _
  · generalize hn : xs.length = n at hr
    cases hr with
    | nil a cap => omega
    | list h1 h2 h3 h4 h5 h6 h7 h8 =>
      rename_i vs ad sz'
      have hsz : sz' = sz := by
        cases xs with
        | nil => exfalso; simp at hm; omega
        | cons x xs => rw [← h3 x (by simp), hz x (by simp)]
      subst hsz
      rw [if_neg (by omega)]
      simp only [Option.map_some]
      rw [← hlen]
      refine .list (vs := (vs.drop (l * sz')).take ((m - l) * sz')) (sz := sz') (fun hn => by rw [Addr.add_block]; exact h1 (by rintro rfl; simp at hn)) (add_spot h2 _) ?_ ((h4.drop h2 _).take _) ?_ (by omega) (by omega) ?_
      · intro x hx; exact hz x (List.mem_of_mem_take (List.mem_of_mem_drop hx))
      · intro u hu; exact h5 u (List.mem_of_mem_drop (List.mem_of_mem_take hu))
      · have hd := h8.drop (l * sz')
        rw [flat_drop hz] at hd
        have e : (xs.take m).drop l = (xs.drop l).take (m - l) := by rw [List.drop_take]
        rw [e]
        have hz' : ∀ x ∈ xs.drop l, x.cells.length = sz' := fun x hx => hz x (List.mem_of_mem_drop hx)
        have hsplit : flat (xs.drop l) = flat ((xs.drop l).take (m - l)) ++ flat ((xs.drop l).drop (m - l)) := by rw [← flat_append, List.take_append_drop]
        rw [hsplit] at hd
        have := hd.of_append.1
        rwa [flat_length (fun x hx => hz' x (List.mem_of_mem_take hx)), List.length_take, List.length_drop, Nat.min_eq_left (by omega)] at this

theorem rep_list_form {xs : List AV} {s : Value} (hr : Rep (Imm H w) w (.list xs) s) : ∃ a cap, s = .slice a xs.length cap ∧ (xs = [] ∨ (xs.length ≤ cap ∧ ∃ sz, ∀ x ∈ xs, x.cells.length = sz)) := by
  cases hr with
  | nil a cap => exact ⟨a, cap, rfl, .inl rfl⟩
  | list h1 h2 h3 h4 h5 h6 h7 h8 => exact ⟨_, _, rfl, .inr ⟨h6, _, h3⟩⟩

theorem quiet_slice_list {t e sz : Nat} {xs : List AV} {s : Value} {lo hi mx : Option AV} {l h m : Option Value} (ht : tdAt P t = some (.slice e sz)) (hr : Rep (Imm H w) w (.list xs) s)
    (hz : ∀ x ∈ xs, x.cells.length = sz)
    (hv : vslice lo hi mx (.list xs) = some v) (hl : ∀ a, lo = some a → ∃ x, l = some x ∧ Rep (Imm H w) w a x) (hln : lo = none → l = none)
    (hh : ∀ a, hi = some a → ∃ x, h = some x ∧ Rep (Imm H w) w a x) (hhn : hi = none → h = none) (hm : ∀ a, mx = some a → ∃ x, m = some x ∧ Rep (Imm H w) w a x) (hmn : mx = none → m = none) :
    ∃ u, (Instr.sliceAt t s l h m).run P w = .ok u w ∧ Rep (Imm H w) w v u := by
  obtain ⟨hu, hs⟩ := slice_info (w := w) ht
  obtain ⟨a, cap, rfl, hcap⟩ := rep_list_form hr
  unfold vslice at hv
  simp only at hv
  split at hv
  · cases hhn rfl; cases hmn rfl
    obtain ⟨x, rfl, hx⟩ := hl _ rfl
    cases hx.val_eq
    split at hv
    · rename_i i hb
      simp only [Option.some.injEq] at hv; subst hv
      have hi0 : i.toNat ≤ xs.length := by omega
      refine ⟨_, ?_, by have := rep_sub hr hi0 (Nat.le_refl _) sz hz; rwa [List.take_length] at this⟩
      simp only [Instr.sliceAt, Instr.slice, Sem.run_bind, run_underlying hu, Result.andThen, Instr.sliceBounds, run_sliceBound hb.1 hb.2, Sem.run_pure, hs]
    · cases hv
  · cases hln rfl; cases hmn rfl
    obtain ⟨x, rfl, hx⟩ := hh _ rfl
    cases hx.val_eq
    split at hv
    · rename_i i hb
      simp only [Option.some.injEq] at hv; subst hv
      have hi0 : i.toNat ≤ xs.length := by omega
      have hic : i ≤ cap := by
        rcases hcap with rfl | ⟨h1, _⟩
        · have := hb.2; simp at this; omega
        · omega
      refine ⟨_, ?_, by have := rep_sub hr (Nat.zero_le _) hi0 sz hz; simpa using this⟩
      simp only [Instr.sliceAt, Instr.slice, Sem.run_bind, run_underlying hu, Result.andThen, Instr.sliceBounds, run_sliceBound hb.1 hic, Sem.run_pure, hs]
      by_cases hc : cap = 0
      · simp [hc]
      · simp [hc, Addr.add]
    · cases hv
  · cases hmn rfl
    obtain ⟨x, rfl, hx⟩ := hl _ rfl
    obtain ⟨y, rfl, hy⟩ := hh _ rfl
    cases hx.val_eq; cases hy.val_eq
    split at hv
    · rename_i i _ j hb
      simp only [Option.some.injEq] at hv; subst hv
      have hj0 : j.toNat ≤ xs.length := by omega
      have hic : j ≤ cap := by
        rcases hcap with rfl | ⟨h1, _⟩
        · have := hb.2.2; simp at this; omega
        · omega
      refine ⟨_, ?_, rep_sub hr (by omega) hj0 sz hz⟩
      have h1 : (0 : Int) ≤ j := by omega
      simp only [Instr.sliceAt, Instr.slice, Sem.run_bind, run_underlying hu, Result.andThen, Instr.sliceBounds, run_sliceBound h1 hic,
        run_sliceBound hb.1 (show i ≤ ((j.toNat : Nat) : Int) by omega), Sem.run_pure, hs]
    · cases hv
  · cases hln rfl
    obtain ⟨x, rfl, hx⟩ := hh _ rfl
    obtain ⟨y, rfl, hy⟩ := hm _ rfl
    cases hx.val_eq; cases hy.val_eq
    simp only [Option.some.injEq] at hv; subst hv
    have e : ∀ k1 k2 : IntKind, ∃ a', (Instr.sliceAt t (.slice a xs.length cap) none (some (.int k1 0)) (some (.int k2 0))).run P w = .ok (.slice a' 0 0) w := fun k1 k2 => ⟨_, by
      simp only [Instr.sliceAt, Instr.slice, Sem.run_bind, run_underlying hu, Result.andThen, Instr.sliceBounds, run_sliceBound (Int.le_refl 0) (Int.natCast_nonneg cap),
        run_sliceBound (Int.le_refl 0) (show (0 : Int) ≤ (((0 : Int).toNat : Nat) : Int) by simp), Sem.run_pure, hs]
      rfl⟩
    obtain ⟨a', e⟩ := e _ _
    exact ⟨_, e, .nil0 _⟩
  · cases hv
theorem quiet_slice_nil0 {t e sz : Nat} {s : Value} {lo hi mx : Option AV} {l h m : Option Value} (ht : tdAt P t = some (.slice e sz)) (hr : Rep (Imm H w) w .nil0 s)
    (hv : vslice lo hi mx .nil0 = some v) (hln : lo = none → l = none)
    (hh : ∀ a, hi = some a → ∃ x, h = some x ∧ Rep (Imm H w) w a x) (hm : ∀ a, mx = some a → ∃ x, m = some x ∧ Rep (Imm H w) w a x) (hmn : mx = none → m = none) :
    ∃ u, (Instr.sliceAt t s l h m).run P w = .ok u w ∧ Rep (Imm H w) w v u := by
  obtain ⟨hu, hs⟩ := slice_info (w := w) ht
  cases hr with
  | nil0 a =>
  unfold vslice at hv
  simp only at hv
  split at hv
  · cases hln rfl
    obtain ⟨x, rfl, hx⟩ := hh _ rfl
    obtain ⟨y, rfl, hy⟩ := hm _ rfl
    cases hx.val_eq; cases hy.val_eq
    simp only [Option.some.injEq] at hv; subst hv
    have e : ∀ k1 k2 : IntKind, ∃ a', (Instr.sliceAt t (.slice a 0 0) none (some (.int k1 0)) (some (.int k2 0))).run P w = .ok (.slice a' 0 0) w := fun k1 k2 => ⟨_, by
      simp only [Instr.sliceAt, Instr.slice, Sem.run_bind, run_underlying hu, Result.andThen, Instr.sliceBounds, run_sliceBound (Int.le_refl 0) (show (0 : Int) ≤ ((0 : Nat) : Int) by simp),
        run_sliceBound (Int.le_refl 0) (show (0 : Int) ≤ (((0 : Int).toNat : Nat) : Int) by simp), Sem.run_pure, hs]
      rfl⟩
    obtain ⟨a', e⟩ := e _ _
    exact ⟨_, e, .nil0 _⟩
  · cases hln rfl; cases hmn rfl
    obtain ⟨x, rfl, hx⟩ := hh _ rfl
    cases hx.val_eq
    simp only [Option.some.injEq] at hv; subst hv
    have e : ∀ k1 k2 : IntKind, ∃ a', (Instr.sliceAt t (.slice a 0 0) none (some (.int k1 0)) none).run P w = .ok (.slice a' 0 0) w := fun k1 k2 => ⟨_, by
      simp only [Instr.sliceAt, Instr.slice, Sem.run_bind, run_underlying hu, Result.andThen, Instr.sliceBounds, run_sliceBound (Int.le_refl 0) (show (0 : Int) ≤ ((0 : Nat) : Int) by simp), Sem.run_pure, hs]
      rfl⟩
    obtain ⟨a', e⟩ := e _ .i64
    exact ⟨_, e, .nil0 _⟩
  · cases hv

/-! ### Structs that are built -/
theorem set_run {off : Nat} : ∀ (ws : List Value) (k : Nat) (cs : List Value), off + k + ws.length ≤ cs.length →
    (ws.zipIdx k).foldl (fun cs p => cs.set (off + p.2) p.1) cs = cs.take (off + k) ++ ws ++ cs.drop (off + k + ws.length)
  | [], k, cs, _ => by simp
  | x :: ws, k, cs, h => by
    simp only [List.length_cons] at h
    rw [List.zipIdx_cons, List.foldl_cons, set_run ws (k + 1) _ (by simp; omega)]
    have hlt : off + k < (cs.set (off + k) x).length := by simp; omega
    rw [show off + (k + 1) = off + k + 1 from by omega, List.take_succ_eq_append_getElem hlt, List.drop_set_of_lt (by omega), List.take_set_of_le (Nat.le_refl _), List.getElem_set_self]
    simp only [List.length_cons, List.append_assoc, List.cons_append, List.nil_append]
    congr 4; omega
theorem fill_toList {off : Nat} : ∀ (ws : List (Value × Nat)) (cs : Array Value), (ws.foldl (fun cs (c, j) => cs.setIfInBounds (off + j) c) cs).toList = ws.foldl (fun cs p => cs.set (off + p.2) p.1) cs.toList
  | [], cs => rfl
  | (x, j) :: ws, cs => by rw [List.foldl_cons, List.foldl_cons, fill_toList ws]; simp

theorem run_places (fs : List Field) (h : ∀ f ∈ fs, (P.info? f.type).isSome = true) (acc : List (Nat × Nat)) :
    (fs.mapM (fun f => do pure (f.offset, ← sizeOf f.type) : Field → Sem (Nat × Nat))).run P w = .ok (fs.map fun f => (f.offset, szOf P f.type)) w := by
  induction fs with
  | nil => rfl
  | cons f fs ih =>
    obtain ⟨i, hi⟩ := Option.isSome_iff_exists.1 (h f (by simp))
    rw [List.mapM_cons]
    simp only [Sem.run_bind, run_sizeOf2 hi, Result.andThen, Sem.run_pure, ih (fun g hg => h g (by simp [hg])), List.map_cons, szOf, hi]

theorem fill_build {I : Nat → Prop} {fs : List (Nat × Nat × Bool)} {place : Nat → Option (Nat × Nat)} (hp : ∀ i, place i = (fs[i]?).map fun x => (x.1, x.2.1)) :
    ∀ (parts : List (Nat × AV)) (ps : List (Nat × Value)) (z : List AV) (zc : Array Value), parts.map (·.1) = ps.map (·.1) → RepL I w (parts.map (·.2)) (ps.map (·.2)) →
      RepL I w z zc.toList → (∀ u ∈ zc.toList, u.oneCell' = true) → vval.vbuild fs z parts = some v → ∃ cells, Instr.fill place zc ps = some cells ∧ Rep I w v (.agg cells)
  | [], [], z, zc, _, _, hz, h1, h => by
    simp only [vval.vbuild, Option.some.injEq] at h; subst h
    exact ⟨zc, rfl, by have := Rep.agg h1 hz; simpa using this⟩
  | [], _ :: _, _, _, h, _, _, _, _ => by simp at h
  | _ :: _, [], _, _, h, _, _, _, _ => by simp at h
  | (i, a) :: parts, (j, x) :: ps, z, zc, hm, hr, hz, h1, h => by
    simp only [List.map_cons, List.cons.injEq] at hm
    obtain ⟨rfl, hm⟩ := hm
    cases hr with
    | cons hr1 hr2 =>
      unfold vval.vbuild at h
      cases hf : fs[i]? with
      | none => rw [hf] at h; cases h
      | some q =>
        obtain ⟨off, sz, ag⟩ := q
        rw [hf] at h
        simp only at h
        split at h
        · rename_i hc
          obtain ⟨c1, c2, c3⟩ := hc
          have hsz : x.cells.size = sz := by rw [← c1, hr1.size]
          have hzl := hz.length
          have hle : ¬ (x.cells.size ≠ sz ∨ off + x.cells.size > zc.size) := by
            have : zc.size = zc.toList.length := by simp
            omega
          have hcells := hr1.cells
          unfold Instr.fill
          rw [hp, hf]
          simp only [Option.map_some]
          rw [if_neg (by simpa using hle)]
          have hset : (x.cells.zipIdx.foldl (fun cs (c, j) => cs.setIfInBounds (off + j) c) zc).toList = zc.toList.take off ++ x.cells.toList ++ zc.toList.drop (off + x.cells.toList.length) := by
            rw [← Array.foldl_toList, Array.toList_zipIdx, fill_toList, set_run _ 0 _ (by simp; omega)]
            simp
          have hlen : x.cells.toList.length = sz := by simpa using hsz
          rw [hlen] at hset
          refine fill_build hp parts ps _ _ hm hr2 ?_ ?_ h
          · rw [hset]
            exact ((hz.take off).append hcells).append (hz.drop _)
          · rw [hset]
            intro u hu
            simp only [List.mem_append] at hu
            rcases hu with (hu | hu) | hu
            · exact h1 u (List.mem_of_mem_take hu)
            · exact hr1.one c3 u hu
            · exact h1 u (List.mem_of_mem_drop hu)
        · cases h

theorem quiet_build {t : TypeId} {ti : TI} {fs : List (Nat × Nat × Bool)} {z : List AV} {parts : List (Nat × AV)} {ps : Array (Nat × Value)} (ht : tiOf P t = some ti) (hd : ti.d = .struct fs) (hz : ti.zero = .agg z)
    (hv : vval.vbuild fs z parts = some v) (hm : parts.map (·.1) = ps.toList.map (·.1)) (hr : RepL (Imm H w) w (parts.map (·.2)) (ps.toList.map (·.2))) :
    ∃ u, (Instr.build t ps).run P w = .ok u w ∧ Rep (Imm H w) w v u := by
  obtain ⟨ii, dd, zz, hi⟩ := tiOf_some ht
  rw [hi.eq] at hd hz
  simp only at hd hz
  cases dd <;> simp only [tdOf, reduceCtorEq] at hd
  rename_i fields
  injection hd with hd
  subst hd
  have hzr := rep_cst (I := Imm H w) (w := w) hi.ok
  rw [hz] at hzr
  have hall := hi.all
  simp only [allInfo, List.all_eq_true, Bool.and_eq_true] at hall
  cases hzc : zz with
  | agg zc =>
    rw [hzc] at hzr
    have e : ∃ vs, zc = vs.toArray ∧ RepL (Imm H w) w z vs ∧ ∀ u ∈ vs, u.oneCell' = true := by
      generalize hg : Value.agg zc = g at hzr
      cases hzr with
      | agg h1 h2 => injection hg with hg; exact ⟨_, hg, h2, h1⟩
    obtain ⟨vs, rfl, h2, h1⟩ := e
    obtain ⟨cells, e1, e2⟩ := fill_build (place := fun i => (fields.map fun f => (f.offset, szOf P f.type))[i]?) (by
      intro i
      simp only [List.getElem?_map, Array.getElem?_map]
      cases hf : fields[i]? with
      | none => simp [hf]
      | some f => simp [hf]) parts ps.toList z vs.toArray hm hr h2 h1 hv
    refine ⟨_, ?_, e2⟩
    have hpl : (fields.mapM (fun f => do pure (f.offset, ← sizeOf f.type) : Field → Sem (Nat × Nat))).run P w = .ok (fields.map fun f => (f.offset, szOf P f.type)) w := by
      obtain ⟨l⟩ := fields
      simp only [List.mapM_toArray, Sem.run_map, run_places (P := P) (w := w) l (fun f hf => (hall f hf).1) [], Result.andThen]
      simp
    simp only [Instr.build, Sem.run_bind, run_zeroValue' hi, hzc, Result.andThen, run_underlying hi.und, hpl, Value.cells, e1, Sem.run_pure]
  | _ =>
    rw [hzc] at hzr
    cases hzr

theorem RepL.of_map {α : Type} {I : Nat → Prop} {f : α → AV} {g : α → Value} : ∀ {l : List α}, (∀ x ∈ l, Rep I w (f x) (g x)) → RepL I w (l.map f) (l.map g) := fun {l} h => RepL.map_ f g l h

/-- **What is computed by value is what the operation yields.** -/
theorem vval_quiet (hv : vval P ρ H o = some v) : VQuiet P G ρ H o v := by
  refine quiet_of fun ρc w ho hst => ?_
  unfold vval at hv
  split at hv
  · -- move
    rename_i x hop
    simp only [Option.some.injEq] at hv; subst hv
    exact ⟨_, by simp only [execOp, hop, Sem.run_pure], ho x (by simp [hop, Op.operands])⟩
  · rename_i x hop
    simp only [Option.some.injEq] at hv; subst hv
    exact ⟨_, by simp only [execOp, hop, Sem.run_pure], ho x (by simp [hop, Op.operands])⟩
  · -- pick
    rename_i c a b hop
    split at hv
    · rename_i t hc
      have h1 := ho c (by simp [hop, Op.operands])
      rw [hc] at h1
      have h1 := h1.val_eq
      simp only [Option.some.injEq] at hv; subst hv
      refine ⟨if t then ρc a else ρc b, by simp only [execOp, hop, h1, asBool, Sem.run_bind, Sem.run_pure, Result.andThen], ?_⟩
      cases t
      · exact ho b (by simp [hop, Op.operands])
      · exact ho a (by simp [hop, Op.operands])
    · cases hv
  · -- load
    rename_i t x hop
    split at hv
    · rename_i ti cs ht hc
      obtain ⟨ad, vs, e1, e2, e3, e4, e5⟩ := cellsAt_reads hc (ho x (by simp [hop, Op.operands])) hst
      obtain ⟨u, e6, e7⟩ := run_loadVar_ldv (w := w) ht hv e3 e4 e5
      exact ⟨u, by simp only [execOp, hop, e1, Instr.loadAt, Instr.sureAddr, Sem.run_bind, Sem.run_pure, Result.andThen, e6], e7⟩
    · cases hv
  · -- nilCheck
    rename_i x hop
    have hx := ho x (by simp [hop, Op.operands])
    generalize hp : ρc x = p at hx
    have fin : ∀ (ad : Addr), p = .pointer (some ad) → (execOp ρc o).run P w = .ok (.value (.pointer (some ad))) w := by
      intro ad e
      simp only [execOp, hop, hp, e, Sem.run_pure]
    split at hv <;> simp only [reduceCtorEq, Option.some.injEq] at hv <;> rename_i e <;> rw [e] at hx <;> subst hv <;> cases hx
    · exact ⟨_, fin _ rfl, .ref ‹_› ‹_› ‹_› ‹_› ‹_›⟩
    · exact ⟨_, fin _ rfl, .addr _ _⟩
    · exact ⟨_, fin _ rfl, .elem _ _ _ _⟩
  · -- binOp
    rename_i op t x y yt hop
    obtain ⟨u, e1, e2⟩ := quiet_bin (X := x) (Y := y) hv (ho x (by simp [hop, Op.operands])) (ho y (by simp [hop, Op.operands]))
    exact ⟨u, by simp only [execOp, hop]; rw [Sem.run_bind]; rw [e1]; rfl, e2⟩
  · -- unOp
    rename_i op t x hop
    have hx := ho x (by simp [hop, Op.operands])
    split at hv <;> simp only [reduceCtorEq, Option.some.injEq] at hv <;> rename_i e <;> rw [e] at hx <;> subst hv <;> have hx := hx.val_eq
    · exact ⟨_, by simp only [execOp, hop, hx, Op.unary, Sem.run_bind, Sem.run_pure, Result.andThen], .val _ trivial⟩
    · exact ⟨_, by simp only [execOp, hop, hx, Op.unary, Op.intArith, Sem.run_bind, Sem.run_pure, Result.andThen], .val _ trivial⟩
  · -- convert
    rename_i src dst x hop
    have hx := ho x (by simp [hop, Op.operands])
    split at hv
    · rename_i d k k' n hs hd e
      simp only [Option.some.injEq] at hv; subst hv
      rw [e] at hx; have hx := hx.val_eq
      obtain ⟨ds, hds⟩ := td_any hs
      exact ⟨_, by simp only [execOp, hop, hx, convert, Sem.run_bind, run_underlying hds, run_underlying (td_int hd), Result.andThen, Conv.intToInt, Sem.run_pure], .val _ trivial⟩
    · rename_i d s hs hd e
      simp only [Option.some.injEq] at hv; subst hv
      rw [e] at hx
      generalize hp : ρc x = p at hx
      cases hx with
      | val _ hok =>
        obtain ⟨ds, hds⟩ := td_any hs
        exact ⟨.string s, by simp only [execOp, hop, hp, convert, Sem.run_bind, run_underlying hds, run_underlying (td_str hd), Result.andThen, Sem.run_pure], .val _ hok⟩
    · rename_i d k n hs hd e
      split at hv
      · rename_i hle
        simp only [Option.some.injEq] at hv; subst hv
        rw [e] at hx; have hx := hx.val_eq
        obtain ⟨ds, hds⟩ := td_any hs
        exact ⟨_, by simp only [execOp, hop, hx, convert, Sem.run_bind, run_underlying hds, run_underlying (td_str hd), Result.andThen, Conv.intToString, Sem.run_pure], .val _ hle⟩
      · cases hv
    · cases hv
  · -- fieldAddr
    rename_i t x i hop
    have hx := ho x (by simp [hop, Op.operands])
    split at hv
    · rename_i off fz ag cs hf e
      split at hv
      · cases hv
      · rename_i hz
        simp only [Option.some.injEq] at hv; subst hv
        rw [e] at hx
        obtain ⟨ad, e1, e2⟩ := rep_ref_drop hx off
        exact ⟨_, by simp only [execOp, hop, e1, Sem.run_bind, quiet_fieldAddr hf hz, Result.andThen, Sem.run_pure], e2⟩
    · rename_i off fz ag b o hf e
      split at hv
      · cases hv
      · rename_i hz
        simp only [Option.some.injEq] at hv; subst hv
        rw [e] at hx
        generalize hp : ρc x = p at hx
        cases hx
        exact ⟨.pointer (some ⟨b, o + off, none⟩), by simp only [execOp, hop, hp, Sem.run_bind, quiet_fieldAddr hf hz, Result.andThen, Sem.run_pure, add_plain], .addr _ _⟩
    · rename_i off fz ag b i sz o hf e
      split at hv
      · cases hv
      · rename_i hz
        simp only [Option.some.injEq] at hv; subst hv
        rw [e] at hx
        generalize hp : ρc x = p at hx
        cases hx
        exact ⟨.pointer (some ⟨b, i * sz + (o + off), none⟩), by simp only [execOp, hop, hp, Sem.run_bind, quiet_fieldAddr hf hz, Result.andThen, Sem.run_pure, add_plain, Nat.add_assoc], .elem _ _ _ _⟩
    · cases hv
  · -- field
    rename_i t x i hop
    have hx := ho x (by simp [hop, Op.operands])
    split at hv
    · rename_i off sz cs hf e
      rw [e] at hx
      obtain ⟨u, e1, e2⟩ := quiet_field hf hx (by rw [if_pos rfl]; exact hv)
      exact ⟨u, by simp only [execOp, hop, Sem.run_bind, e1, Result.andThen, Sem.run_pure], e2⟩
    · rename_i off sz cs hf e
      rw [e] at hx
      obtain ⟨u, e1, e2⟩ := quiet_field hf hx (by rw [if_neg (by simp)]; exact hv)
      exact ⟨u, by simp only [execOp, hop, Sem.run_bind, e1, Result.andThen, Sem.run_pure], e2⟩
    · cases hv
  · -- indexAddr
    rename_i t x i hop
    have hx := ho x (by simp [hop, Op.operands])
    have hi := ho i (by simp [hop, Op.operands])
    split at hv
    · rename_i e0 sz xs k n ht ex ei
      rw [ex] at hx; rw [ei] at hi; have hi := hi.val_eq
      split at hv
      · rename_i h0
        cases hxx : xs[n.toNat]? with
        | none => rw [hxx] at hv; cases hv
        | some el =>
          rw [hxx] at hv
          simp only [Option.bind_some] at hv
          split at hv
          · rename_i hsz
            simp only [Option.some.injEq] at hv; subst hv
            obtain ⟨u, e1, e2⟩ := quiet_indexAddr (k := k) ht hx h0 hxx hsz
            exact ⟨u, by simp only [execOp, hop, hi, Sem.run_bind, e1, Result.andThen, Sem.run_pure], e2⟩
          · cases hv
      · cases hv
    · rename_i e0 sz b m cap k n ht ex ei
      rw [ex] at hx; rw [ei] at hi; have hi := hi.val_eq
      split at hv
      · rename_i h0
        simp only [Option.some.injEq] at hv; subst hv
        obtain ⟨u, e1, e2⟩ := quiet_indexAddr_m (k := k) ht hx h0.1 h0.2
        exact ⟨u, by simp only [execOp, hop, hi, Sem.run_bind, e1, Result.andThen, Sem.run_pure], e2⟩
      · cases hv
    · rename_i len e0 sz cs k n ht ex ei
      rw [ex] at hx; rw [ei] at hi; have hi := hi.val_eq
      split at hv
      · rename_i h0
        simp only [Option.some.injEq] at hv; subst hv
        obtain ⟨u, e1, e2⟩ := quiet_indexAddr_a (k := k) ht hx h0.1 h0.2
        exact ⟨u, by simp only [execOp, hop, hi, Sem.run_bind, e1, Result.andThen, Sem.run_pure], e2⟩
      · cases hv
    · cases hv
  · -- index
    rename_i t x i hop
    have hx := ho x (by simp [hop, Op.operands])
    have hi := ho i (by simp [hop, Op.operands])
    split at hv
    · rename_i s k n ht ex ei
      rw [ex] at hx; rw [ei] at hi; have hi := hi.val_eq; have hx := hx.val_eq
      split at hv
      · rename_i h0
        cases hs : s[n.toNat]? with
        | none => rw [hs] at hv; cases hv
        | some c =>
          rw [hs] at hv
          simp only [Option.map_some, Option.some.injEq] at hv; subst hv
          exact ⟨_, by simp only [execOp, hop, hi, hx, Instr.index, asIntOf, Sem.run_bind, Sem.run_pure, Result.andThen, run_underlying (td_str ht), if_pos h0, hs], .val _ trivial⟩
      · cases hv
    · cases hv
  · -- slice
    rename_i t x lo hi mx hop
    have hx := ho x (by simp [hop, Op.operands])
    have hl : ∀ a, lo.map ρ = some a → ∃ u, lo.map ρc = some u ∧ Rep (Imm H w) w a u := by
      intro a ha
      cases lo with
      | none => cases ha
      | some q => simp only [Option.map_some, Option.some.injEq] at ha; subst ha; exact ⟨_, rfl, ho q (by simp [hop, Op.operands])⟩
    have hh : ∀ a, hi.map ρ = some a → ∃ u, hi.map ρc = some u ∧ Rep (Imm H w) w a u := by
      intro a ha
      cases hi with
      | none => cases ha
      | some q => simp only [Option.map_some, Option.some.injEq] at ha; subst ha; exact ⟨_, rfl, ho q (by simp [hop, Op.operands])⟩
    have hm : ∀ a, mx.map ρ = some a → ∃ u, mx.map ρc = some u ∧ Rep (Imm H w) w a u := by
      intro a ha
      cases mx with
      | none => cases ha
      | some q => simp only [Option.map_some, Option.some.injEq] at ha; subst ha; exact ⟨_, rfl, ho q (by simp [hop, Op.operands])⟩
    have hln : lo.map ρ = none → lo.map ρc = none := by cases lo <;> simp
    have hhn : hi.map ρ = none → hi.map ρc = none := by cases hi <;> simp
    have hmn : mx.map ρ = none → mx.map ρc = none := by cases mx <;> simp
    split at hv
    · rename_i s ht ex
      rw [ex] at hx
      generalize hp : ρc x = p at hx
      cases hx with
      | val _ hok =>
        obtain ⟨u, e1, e2⟩ := quiet_slice_str ht hok hv hl hln hh hhn hmn
        exact ⟨u, by simp only [execOp, hop, hp, Sem.run_bind, e1, Result.andThen, Sem.run_pure], e2⟩
    · rename_i e0 sz xs ht ex
      rw [ex] at hx
      split at hv
      · rename_i hz
        obtain ⟨u, e1, e2⟩ := quiet_slice_list ht hx hz hv hl hln hh hhn hm hmn
        exact ⟨u, by simp only [execOp, hop, Sem.run_bind, e1, Result.andThen, Sem.run_pure], e2⟩
      · cases hv
    · rename_i e0 sz ht ex
      rw [ex] at hx
      obtain ⟨u, e1, e2⟩ := quiet_slice_nil0 ht hx hv hln hh hm hmn
      exact ⟨u, by simp only [execOp, hop, Sem.run_bind, e1, Result.andThen, Sem.run_pure], e2⟩
    · cases hv
  · -- lookup
    rename_i t x k ok hop
    split at hv
    · rename_i kt et es key h1 h2 h3
      split at hv
      · rename_i kd ei h4 h5
        split at hv
        · rename_i hc
          simp only [Bool.and_eq_true] at hc
          obtain ⟨u, e1, e2⟩ := quiet_lookup h1 h2 h3 h4 h5 hc.1 hc.2 hv (ho x (by simp [hop, Op.operands])) (ho k (by simp [hop, Op.operands])) hst
          exact ⟨u, by simp only [execOp, hop, Sem.run_bind, e1, Result.andThen, Sem.run_pure], e2⟩
        · cases hv
      · cases hv
    · cases hv
  · -- extract
    rename_i x i hop
    have hx := ho x (by simp [hop, Op.operands])
    split at hv
    · rename_i vs e
      rw [e] at hx
      generalize hp : ρc x = p at hx
      cases hx with
      | tup h =>
        obtain ⟨u, e1, e2⟩ := h.get _ _ hv
        refine ⟨u, ?_, e2⟩
        simp only [execOp, hop, hp, Instr.extract, Sem.run_bind, Result.andThen]
        simp [e1]
    · cases hv
  · -- build
    rename_i t parts hop
    split at hv
    · rename_i ti ht
      split at hv
      · rename_i fs z hd hz
        obtain ⟨u, e1, e2⟩ := quiet_build (ps := parts.map fun (i, x) => (i, ρc x)) ht hd hz hv (by simp [Function.comp_def]) (by
          simp only [Array.toList_map, List.map_map]
          refine RepL.map_ _ _ _ fun q hq => ho q.2 ?_
          simp only [hop, Op.operands]
          simp only [List.mem_toArray, List.mem_map]
          exact ⟨q, hq, rfl⟩)
        exact ⟨u, by simp only [execOp, hop, Sem.run_bind, e1, Result.andThen, Sem.run_pure], e2⟩
      · cases hv
    · cases hv
  · -- makeFunc
    rename_i fn first cap hop
    simp only [Option.some.injEq] at hv; subst hv
    refine ⟨.func fn (first.map ρc) (cap.map ρc), by simp only [execOp, hop, Instr.makeFunc, Sem.run_bind, Sem.run_pure, Result.andThen], ?_⟩
    have h1 := RepL.map_ (I := Imm H w) (w := w) ρ ρc first.toList fun q hq => ho q (by simp [hop, Op.operands]; exact .inl (by simpa using hq))
    have h2 := RepL.map_ (I := Imm H w) (w := w) ρ ρc cap.toList fun q hq => ho q (by simp [hop, Op.operands]; exact .inr (by simpa using hq))
    have := Rep.func (fn := fn) h1 h2
    rw [← @Array.toArray_toList _ (first.map ρc), ← @Array.toArray_toList _ (cap.map ρc), Array.toList_map, Array.toList_map]
    exact this
  · -- makeInterface
    rename_i t x hop
    split at hv
    · cases hv
    · cases hv
    · cases hv
    · rename_i d h1 h2 hd
      simp only [Option.some.injEq] at hv; subst hv
      obtain ⟨ti, i, dd, z, hi, hdd⟩ := tdAt_some hd
      refine ⟨.iface t (ρc x), ?_, .iface (ho x (by simp [hop, Op.operands]))⟩
      simp only [execOp, hop, Instr.makeInterface, Sem.run_bind, run_underlying hi.und, Result.andThen]
      cases dd <;> first | (simp only [Sem.run_pure]; done) | (simp only [tdOf] at hdd; exact absurd hdd.symm h1)
  · -- calls of built-in functions
    rename_i c hop
    have fin : ∀ (b : Builtin) (argTypes : Array TypeId) (u : Value), c.callee = .builtin b → (∀ cc, (builtin b c.argTypes o.type cc (c.args.map ρc)).run P w = .ok (.value u) w) →
        (execOp ρc o).run P w = .ok (.value u) w := by
      intro b argTypes u hb h
      simp only [execOp, hop, resolve, hb, Sem.run_bind, Sem.run_pure, Result.andThen, invoke, h]
    have mem : ∀ x ∈ c.args.toList, Rep (Imm H w) w (ρ x) (ρc x) := fun x hx => ho x (by simp [hop, Op.operands, Call.operands]; exact .inr (by simpa using hx))
    split at hv
    · rename_i hb
      split at hv
      · rename_i x t hx ht
        have hxr := mem x (by rw [hx]; simp)
        have ha : c.args.map ρc = #[ρc x] := by rw [← @Array.toArray_toList _ (c.args.map ρc), Array.toList_map, hx]; rfl
        have hta : c.argTypes = #[t] := by rw [← @Array.toArray_toList _ c.argTypes, ht]
        have run : ∀ u, (Builtin.len_ #[t] o.type #[ρc x]).run P w = .ok u w → (execOp ρc o).run P w = .ok (.value u) w := by
          intro u hu
          refine fin .len c.argTypes u hb fun cc => ?_
          simp only [builtin, ha, hta, Sem.run_bind, hu, Result.andThen, Sem.run_pure]
        split at hv
        · rename_i s hd e
          simp only [Option.some.injEq] at hv; subst hv
          rw [e] at hxr; have hxr := hxr.val_eq
          exact ⟨_, run _ (by simp only [Builtin.len_, hxr]; simp [run_underlying (td_str hd), Result.andThen]; rfl), .val _ trivial⟩
        · rename_i e0 sz xs hd e
          simp only [Option.some.injEq] at hv; subst hv
          rw [e] at hxr
          obtain ⟨a, cap, hp, _⟩ := rep_list_form hxr
          exact ⟨_, run _ (by simp only [Builtin.len_, hp]; simp [run_underlying (slice_info (w := w) hd).1, Result.andThen]; rfl), .val _ trivial⟩
        · rename_i e0 sz hd e
          simp only [Option.some.injEq] at hv; subst hv
          rw [e] at hxr
          generalize hp : ρc x = p at hxr
          cases hxr
          exact ⟨_, run _ (by simp only [Builtin.len_, hp]; simp [run_underlying (slice_info (w := w) hd).1, Result.andThen]; rfl), .val _ trivial⟩
        · rename_i e0 sz b n cap hd e
          simp only [Option.some.injEq] at hv; subst hv
          rw [e] at hxr
          generalize hp : ρc x = p at hxr
          cases hxr
          exact ⟨_, run _ (by simp only [Builtin.len_, hp]; simp [run_underlying (slice_info (w := w) hd).1, Result.andThen]; rfl), .val _ trivial⟩
        · rename_i a b hd e
          simp only [Option.some.injEq] at hv; subst hv
          rw [e] at hxr; have hxr := hxr.val_eq
          exact ⟨_, run _ (by simp only [Builtin.len_, hxr]; simp [run_underlying (td_map hd), Result.andThen]; rfl), .val _ trivial⟩
        · rename_i a b es hd e
          simp only [Option.some.injEq] at hv; subst hv
          rw [e] at hxr
          generalize hp : ρc x = p at hxr
          cases hxr with
          | imap h1 h2 h0 h3 h4 =>
            have hl := h3.length
            refine ⟨_, run _ (by simp only [Builtin.len_, hp]; simp [run_underlying (td_map hd), Result.andThen, run_getMap h2]; rfl), ?_⟩
            simp at hl
            rw [hl]
            exact .val _ trivial
        · rename_i a b bb hd e
          split at hv
          · rename_i es hb'
            simp only [Option.some.injEq] at hv; subst hv
            rw [e] at hxr
            generalize hp : ρc x = p at hxr
            cases hxr
            obtain ⟨ents, c', h2, h3, h4⟩ := hst.obj _ _ hb'
            have hl := h3.length
            refine ⟨_, run _ (by simp only [Builtin.len_, hp]; simp [run_underlying (td_map hd), Result.andThen, run_getMap h2]; rfl), ?_⟩
            simp at hl
            rw [hl]
            exact .val _ trivial
          · cases hv
        · cases hv
      · cases hv
    · rename_i hb
      split at hv
      · rename_i k x k' y hx
        split at hv
        · rename_i hk
          simp only [Option.some.injEq] at hv; subst hv hk
          have hr := RepL.map_ (I := Imm H w) (w := w) ρ ρc c.args.toList mem
          rw [hx] at hr
          have ha : c.args.map ρc = #[.int k x, .int k y] := by
            rw [← @Array.toArray_toList _ (c.args.map ρc), Array.toList_map]
            generalize c.args.toList.map ρc = l at hr
            cases hr with | cons a hr => cases hr with | cons b hr => cases hr; rw [a.val_eq, b.val_eq]
          exact ⟨_, fin .min c.argTypes _ hb (fun cc => by simp only [builtin, ha, Builtin.min_]; simp [Builtin.min2, Result.andThen]), .val _ trivial⟩
        · cases hv
      · cases hv
    · rename_i hb
      split at hv
      · rename_i k x k' y hx
        split at hv
        · rename_i hk
          simp only [Option.some.injEq] at hv; subst hv hk
          have hr := RepL.map_ (I := Imm H w) (w := w) ρ ρc c.args.toList mem
          rw [hx] at hr
          have ha : c.args.map ρc = #[.int k x, .int k y] := by
            rw [← @Array.toArray_toList _ (c.args.map ρc), Array.toList_map]
            generalize c.args.toList.map ρc = l at hr
            cases hr with | cons a hr => cases hr with | cons b hr => cases hr; rw [a.val_eq, b.val_eq]
          exact ⟨_, fin .max c.argTypes _ hb (fun cc => by simp only [builtin, ha, Builtin.max_]; simp [Builtin.max2, Result.andThen]), .val _ trivial⟩
        · cases hv
      · cases hv
    · cases hv
  · cases hv
end
end Go.V