/- Walking by rewriting: operations as equations over first-order states. No condition. -/
import Derived.Test.YtjeiboididfgmaaGreatDoorVf
set_option linter.unusedVariables false
set_option linter.unusedSimpArgs false
namespace Go.V
open Go

def ev (G : GT) (tm : Nat → AV) : Operand → AV
  | .tmp t => tm t
  | .const v => cst v
  | .global g => match G g with | some cs => .ref cs | none => .val (.pointer (some ⟨g, 0, none⟩))
  | .func f => .fn f
def putT (d : Option Nat) (v : AV) (tm : Nat → AV) : Nat → AV := match d with | some i => upd tm i v | none => tm
def onN (N : AS → Prop) (E : AV → AS → Prop) : AX → AS → Prop
  | .normal, s => N s
  | .pan v, s => E v s
  | _, _ => False

def vpick : AV → AV → AV → Option AV
  | .val (.bool t), a, b => some (if t then a else b)
  | _, _, _ => none
def vload : Option TI → Option (List AV) → Option AV
  | some ti, some cs => ldv ti cs
  | _, _ => none
def vnilc : AV → Option AV
  | .ref cs => some (.ref cs)
  | .addr b off => some (.addr b off)
  | .elem b i sz off => some (.elem b i sz off)
  | _ => none
def vun : UnOp → AV → Option AV
  | .not, .val (.bool b) => some (.val (.bool (!b)))
  | .neg, .val (.int k n) => some (.val (.int k (k.wrap (0 - n))))
  | _, _ => none
def vconv : Option TD → Option TD → AV → Option AV
  | some _, some (.int k), .val (.int _ n) => some (.val (.int k (k.wrap n)))
  | some _, some .str, .val (.string s) => some (.val (.string s))
  | some _, some .str, .val (.int _ n) => if (Utf8.encode n).size ≤ lim then some (.val (.string (Utf8.encode n))) else none
  | _, _, _ => none
def vfad : Option (Nat × Nat × Bool) → AV → Option AV
  | some (off, fz, _), .ref cs => if fz = 0 then none else some (.ref (cs.drop off))
  | some (off, fz, _), .addr b o => if fz = 0 then none else some (.addr b (o + off))
  | some (off, fz, _), .elem b i sz o => if fz = 0 then none else some (.elem b i sz (o + off))
  | _, _ => none
def vfld : Option (Nat × Nat × Bool) → AV → Option AV
  | some (off, sz, true), .agg cs => if off + sz ≤ cs.length then some (.agg ((cs.drop off).take sz)) else none
  | some (off, _, false), .agg cs => (cs[off]?)
  | _, _ => none
def vixa : Option TD → AV → AV → Option AV
  | some (.slice _ sz), .list xs, .val (.int _ i) => if 0 ≤ i then (xs[i.toNat]?).bind fun x => if x.cells.length = sz then some (.ref x.cells) else none else none
  | some (.slice _ sz), .mlist b n _, .val (.int _ i) => if 0 ≤ i ∧ i < n then some (.elem b i.toNat sz 0) else none
  | some (.arr len _ sz), .ref cs, .val (.int _ i) => if 0 ≤ i ∧ i < len then some (.ref (cs.drop (i.toNat * sz))) else none
  | _, _, _ => none
def vix : Option TD → AV → AV → Option AV
  | some .str, .val (.string s), .val (.int _ i) => if 0 ≤ i then (s[i.toNat]?).map fun c => .val (.int .u8 c.toNat) else none
  | _, _, _ => none
def vslc : Option TD → AV → Option AV → Option AV → Option AV → Option AV
  | some .str, .val (.string s), lo, hi, mx => vslice lo hi mx (.val (.string s))
  | some (.slice _ sz), .list xs, lo, hi, mx => if ∀ x ∈ xs, x.cells.length = sz then vslice lo hi mx (.list xs) else none
  | some (.slice _ _), .nil0, lo, hi, mx => vslice lo hi mx .nil0
  | _, _, _, _, _ => none
def vlook (P : Program) : Option TD → Option (List (AV × AV)) → Option Value → Bool → Option AV
  | some (.map kt et), some es, some key, ok => match tdAt P kt, tiOf P et with
    | some kd, some ei => if keyFits kd key && keysOk kd es then
        (match assoc key es with
         | some v => some (if ok then .tup [v, .bool true] else v)
         | none => some (if ok then .tup [ei.zero, .bool false] else ei.zero))
      else none
    | _, _ => none
  | _, _, _, _ => none
def vext : AV → Nat → Option AV
  | .tup vs, i => vs[i]?
  | _, _ => none
def vbld : Option TI → List (Nat × AV) → Option AV
  | some ti, ps => match ti.d, ti.zero with
    | .struct fs, .agg z => vval.vbuild fs z ps
    | _, _ => none
  | none, _ => none
def vmif : Option TD → Nat → AV → Option AV
  | some .iface, _, _ | some .other, _, _ | none, _, _ => none
  | some _, t, x => some (.iface t x)
def vlenb (H : HM) : Option TD → AV → Option AV
  | some .str, .val (.string s) => some (.int s.size)
  | some (.slice _ _), .list xs => some (.int xs.length)
  | some (.slice _ _), .nil0 => some (.int 0)
  | some (.slice _ _), .mlist _ n _ => some (.int n)
  | some (.map _ _), .val (.map none) => some (.int 0)
  | some (.map _ _), .imap es => some (.int es.length)
  | some (.map _ _), .map b => match H b with
    | some (.map es) => some (.int es.length)
    | _ => none
  | _, _ => none
def vmin : AV → AV → Option AV
  | .val (.int k x), .val (.int k' y) => if k = k' then some (.val (.int k (if y < x then y else x))) else none
  | _, _ => none
def vmax : AV → AV → Option AV
  | .val (.int k x), .val (.int k' y) => if k = k' then some (.val (.int k (if x < y then y else x))) else none
  | _, _ => none

section
variable {P : Program} {G : GT} {M : List Nat} {ops : Array Oper} {N : AS → Prop} {E : AV → AS → Prop} {n : Nat} {r : Option Nat} {Q : AX → AS → Prop} {s : AS}

theorem eval_ev (tm : Nat → AV) (H : HM) (ds : List ADef) : AS.eval G ⟨tm, H, ds⟩ = ev G tm := by funext x; cases x <;> rfl

def wops (P : Program) (G : GT) (M : List Nat) (ops : Array Oper) (N : AS → Prop) (E : AV → AS → Prop) (l : List Oper) (tm : Nat → AV) (H : HM) (ds : List ADef) : Prop :=
  vops P G M ops (onN N E) l ⟨tm, H, ds⟩
def kont (P : Program) (G : GT) (M : List Nat) (ops : Array Oper) (N : AS → Prop) (E : AV → AS → Prop) (d : Option Nat) (rest : List Oper) (tm : Nat → AV) (ds : List ADef) : ARes → HM → Prop
  | .ret v, H' => wops P G M ops N E rest (putT d v tm) H' ds
  | .pan v, H' => E v ⟨tm, H', ds⟩
def stV (P : Program) (G : GT) (M : List Nat) (ops : Array Oper) (N : AS → Prop) (E : AV → AS → Prop) (x : Option AV) (d : Option Nat) (rest : List Oper) (tm : Nat → AV) (H : HM) (ds : List ADef) : Prop :=
  match x with
  | some v => wops P G M ops N E rest (putT d v tm) H ds
  | none => False
/-- An operation with a guard that has yielded b. -/
def wgd (P : Program) (G : GT) (M : List Nat) (ops : Array Oper) (N : AS → Prop) (E : AV → AS → Prop) (b : Option Bool) (want : Bool) (o : Oper) (rest : List Oper) (tm : Nat → AV) (H : HM) (ds : List ADef) : Prop :=
  if b == some want then wops P G M ops N E (o :: rest) tm H ds else wops P G M ops N E rest (putT o.dst .unit tm) H ds
/-- A call. -/
def wcall (P : Program) (G : GT) (M : List Nat) (ops : Array Oper) (N : AS → Prop) (E : AV → AS → Prop) (f : AV) (as : List AV) (d : Option Nat) (rest : List Oper) (tm : Nat → AV) (H : HM) (ds : List ADef) : Prop :=
  CallV P G f as H (kont P G M ops N E d rest tm ds)
/-- An operation that makes or turns objects. -/
def wobj (P : Program) (G : GT) (M : List Nat) (ops : Array Oper) (N : AS → Prop) (E : AV → AS → Prop) (o : Oper) (rest : List Oper) (tm : Nat → AV) (H : HM) (ds : List ADef) : Prop :=
  vx P G M (ev G tm) H o (kont P G M ops N E o.dst rest tm ds)
def gval (tm : Nat → AV) : Option Oper → Option Bool
  | some o => match o.dst with
    | some d => match tm d with
      | .val (.bool b) => some b
      | _ => none
    | none => none
  | none => none

theorem vop_kont (o : Oper) (rest : List Oper) (tm : Nat → AV) (H : HM) (ds : List ADef) (h : o.guard = none) :
    wops P G M ops N E (o :: rest) tm H ds = vx P G M (ev G tm) H o (kont P G M ops N E o.dst rest tm ds) := by
  have : wantA ops o tm = true := by simp [wantA, h]
  simp only [wops, vops, vop, this, if_true, eval_ev]
  refine congrArg _ ?_
  funext x H'
  cases x with
  | ret v => obtain ⟨d, _, _, _, _, _⟩ := o; cases d <;> rfl
  | pan v => rfl

theorem w_nil (tm : Nat → AV) (H : HM) (ds : List ADef) : wops P G M ops N E [] tm H ds = N ⟨tm, H, ds⟩ := rfl
theorem w_guard (d : Option Nat) (op : Op) (ty : Nat) (pos : String) (af : Array Edge) (j : Nat) (want : Bool) (rest : List Oper) (tm : Nat → AV) (H : HM) (ds : List ADef) :
    wops P G M ops N E (⟨d, op, ty, pos, af, some (j, want)⟩ :: rest) tm H ds = wgd P G M ops N E (gval tm ops[j]?) want ⟨d, op, ty, pos, af, none⟩ rest tm H ds := by
  have hy : yieldA ops tm j = gval tm ops[j]? := by
    unfold yieldA gval
    cases ops[j]? with
    | none => rfl
    | some o => simp only [Option.bind_some]; cases o.dst <;> rfl
  unfold wgd
  rw [← hy, vop_kont ⟨d, op, ty, pos, af, none⟩ rest tm H ds rfl]
  simp only [wops, vops, vop, wantA]
  by_cases hc : (yieldA ops tm j == some want) = true
  · simp only [hc, if_true]
    rw [eval_ev]
    have e : ∀ K, vx P G M (ev G tm) H ⟨d, op, ty, pos, af, some (j, want)⟩ K = vx P G M (ev G tm) H ⟨d, op, ty, pos, af, none⟩ K := fun K => rfl
    rw [e]
    refine congrArg _ ?_
    funext x H'
    cases x with
    | ret v => cases d <;> rfl
    | pan v => rfl
  · simp only [hc]
    cases d <;> rfl
theorem wgd_yes (b : Bool) (o : Oper) (rest : List Oper) (tm : Nat → AV) (H : HM) (ds : List ADef) : wgd P G M ops N E (some b) b o rest tm H ds = wops P G M ops N E (o :: rest) tm H ds := by
  simp [wgd]
theorem wgd_tf (o : Oper) (rest : List Oper) (tm : Nat → AV) (H : HM) (ds : List ADef) : wgd P G M ops N E (some true) false o rest tm H ds = wops P G M ops N E rest (putT o.dst .unit tm) H ds := by
  simp [wgd]
theorem wgd_ft (o : Oper) (rest : List Oper) (tm : Nat → AV) (H : HM) (ds : List ADef) : wgd P G M ops N E (some false) true o rest tm H ds = wops P G M ops N E rest (putT o.dst .unit tm) H ds := by
  simp [wgd]
theorem wgd_none (want : Bool) (o : Oper) (rest : List Oper) (tm : Nat → AV) (H : HM) (ds : List ADef) : wgd P G M ops N E none want o rest tm H ds = wops P G M ops N E rest (putT o.dst .unit tm) H ds := by
  simp [wgd]
theorem w_move (d : Option Nat) (x : Operand) (ty : Nat) (pos : String) (af : Array Edge) (rest : List Oper) (tm : Nat → AV) (H : HM) (ds : List ADef) :
    wops P G M ops N E (⟨d, .move x, ty, pos, af, none⟩ :: rest) tm H ds = wops P G M ops N E rest (putT d (ev G tm x) tm) H ds := by
  rw [vop_kont _ _ _ _ _ rfl]; rfl
theorem w_assign (d : Option Nat) (x : Operand) (ty : Nat) (pos : String) (af : Array Edge) (rest : List Oper) (tm : Nat → AV) (H : HM) (ds : List ADef) :
    wops P G M ops N E (⟨d, .assign x, ty, pos, af, none⟩ :: rest) tm H ds = wops P G M ops N E rest (putT d (ev G tm x) tm) H ds := by
  rw [vop_kont _ _ _ _ _ rfl]; rfl
theorem stV_some (v : AV) (d : Option Nat) (rest : List Oper) (tm : Nat → AV) (H : HM) (ds : List ADef) : stV P G M ops N E (some v) d rest tm H ds = wops P G M ops N E rest (putT d v tm) H ds := rfl
theorem stV_none (d : Option Nat) (rest : List Oper) (tm : Nat → AV) (H : HM) (ds : List ADef) : stV P G M ops N E none d rest tm H ds = False := rfl
/-- Operations that are taken by value. -/
def byVal : Op → Bool
  | .pick .. | .load .. | .nilCheck .. | .binOp .. | .unOp .. | .convert .. | .fieldAddr .. | .field .. | .indexAddr .. | .index .. | .slice .. | .lookup .. | .extract .. | .build .. | .makeFunc .. | .makeInterface .. => true
  | .call c => match c.callee with
    | .builtin .len | .builtin .min | .builtin .max => true
    | _ => false
  | _ => false
theorem w_val (o : Oper) (h : o.guard = none) (hv : byVal o.op = true) (rest : List Oper) (tm : Nat → AV) (H : HM) (ds : List ADef) :
    wops P G M ops N E (o :: rest) tm H ds = stV P G M ops N E (vval P (ev G tm) H o) o.dst rest tm H ds := by
  rw [vop_kont _ _ _ _ _ h]
  obtain ⟨d, op, ty, pos, af, g⟩ := o
  cases op with
  | call c =>
    obtain ⟨ce, as, ats⟩ := c
    cases ce with
    | builtin b => cases b <;> first | (cases hv; done) | (unfold stV vx; simp only []; split <;> (rename_i hx; rw [hx]; try rfl))
    | _ => cases hv
  | _ => first | (cases hv; done) | (unfold stV vx; simp only []; split <;> (rename_i hx; rw [hx]; try rfl))
theorem w_pick (d : Option Nat) (c a b : Operand) (ty : Nat) (pos : String) (af : Array Edge) (rest : List Oper) (tm : Nat → AV) (H : HM) (ds : List ADef) :
    wops P G M ops N E (⟨d, .pick c a b, ty, pos, af, none⟩ :: rest) tm H ds = stV P G M ops N E (vpick (ev G tm c) (ev G tm a) (ev G tm b)) d rest tm H ds := by
  rw [w_val _ rfl rfl]
  refine congrArg (fun v => stV P G M ops N E v d rest tm H ds) ?_
  unfold vval vpick
  simp only [Array.toList, List.map_cons, List.map_nil]
  generalize ev G tm c = x
  cases x with
  | val v => cases v <;> rfl
  | _ => rfl
theorem w_load (d : Option Nat) (t : Nat) (x : Operand) (ty : Nat) (pos : String) (af : Array Edge) (rest : List Oper) (tm : Nat → AV) (H : HM) (ds : List ADef) :
    wops P G M ops N E (⟨d, .load t x, ty, pos, af, none⟩ :: rest) tm H ds = stV P G M ops N E (vload (tiOf P t) (cellsAt H (ev G tm x))) d rest tm H ds := w_val _ rfl rfl _ _ _ _
theorem w_nilCheck (d : Option Nat) (x : Operand) (ty : Nat) (pos : String) (af : Array Edge) (rest : List Oper) (tm : Nat → AV) (H : HM) (ds : List ADef) :
    wops P G M ops N E (⟨d, .nilCheck x, ty, pos, af, none⟩ :: rest) tm H ds = stV P G M ops N E (vnilc (ev G tm x)) d rest tm H ds := w_val _ rfl rfl _ _ _ _
theorem w_binOp (d : Option Nat) (op : BinOp) (t : Nat) (x y : Operand) (yt : Nat) (ty : Nat) (pos : String) (af : Array Edge) (rest : List Oper) (tm : Nat → AV) (H : HM) (ds : List ADef) :
    wops P G M ops N E (⟨d, .binOp op t x y yt, ty, pos, af, none⟩ :: rest) tm H ds = stV P G M ops N E (vbin P op t (ev G tm x) (ev G tm y)) d rest tm H ds := w_val _ rfl rfl _ _ _ _
theorem w_unOp (d : Option Nat) (op : UnOp) (t : Nat) (x : Operand) (ty : Nat) (pos : String) (af : Array Edge) (rest : List Oper) (tm : Nat → AV) (H : HM) (ds : List ADef) :
    wops P G M ops N E (⟨d, .unOp op t x, ty, pos, af, none⟩ :: rest) tm H ds = stV P G M ops N E (vun op (ev G tm x)) d rest tm H ds := w_val _ rfl rfl _ _ _ _
theorem w_convert (d : Option Nat) (a b : Nat) (x : Operand) (ty : Nat) (pos : String) (af : Array Edge) (rest : List Oper) (tm : Nat → AV) (H : HM) (ds : List ADef) :
    wops P G M ops N E (⟨d, .convert a b x, ty, pos, af, none⟩ :: rest) tm H ds = stV P G M ops N E (vconv (tdAt P a) (tdAt P b) (ev G tm x)) d rest tm H ds := w_val _ rfl rfl _ _ _ _
theorem w_fieldAddr (d : Option Nat) (t : Nat) (x : Operand) (i : Nat) (ty : Nat) (pos : String) (af : Array Edge) (rest : List Oper) (tm : Nat → AV) (H : HM) (ds : List ADef) :
    wops P G M ops N E (⟨d, .fieldAddr t x i, ty, pos, af, none⟩ :: rest) tm H ds = stV P G M ops N E (vfad ((tiOf P t).bind (fieldOf · i)) (ev G tm x)) d rest tm H ds := w_val _ rfl rfl _ _ _ _
theorem w_field (d : Option Nat) (t : Nat) (x : Operand) (i : Nat) (ty : Nat) (pos : String) (af : Array Edge) (rest : List Oper) (tm : Nat → AV) (H : HM) (ds : List ADef) :
    wops P G M ops N E (⟨d, .field t x i, ty, pos, af, none⟩ :: rest) tm H ds = stV P G M ops N E (vfld ((tiOf P t).bind (fieldOf · i)) (ev G tm x)) d rest tm H ds := w_val _ rfl rfl _ _ _ _
theorem w_indexAddr (d : Option Nat) (t : Nat) (x i : Operand) (ty : Nat) (pos : String) (af : Array Edge) (rest : List Oper) (tm : Nat → AV) (H : HM) (ds : List ADef) :
    wops P G M ops N E (⟨d, .indexAddr t x i, ty, pos, af, none⟩ :: rest) tm H ds = stV P G M ops N E (vixa (tdAt P t) (ev G tm x) (ev G tm i)) d rest tm H ds := w_val _ rfl rfl _ _ _ _
theorem w_index (d : Option Nat) (t : Nat) (x i : Operand) (ty : Nat) (pos : String) (af : Array Edge) (rest : List Oper) (tm : Nat → AV) (H : HM) (ds : List ADef) :
    wops P G M ops N E (⟨d, .index t x i, ty, pos, af, none⟩ :: rest) tm H ds = stV P G M ops N E (vix (tdAt P t) (ev G tm x) (ev G tm i)) d rest tm H ds := w_val _ rfl rfl _ _ _ _
theorem w_slice (d : Option Nat) (t : Nat) (x : Operand) (lo hi mx : Option Operand) (ty : Nat) (pos : String) (af : Array Edge) (rest : List Oper) (tm : Nat → AV) (H : HM) (ds : List ADef) :
    wops P G M ops N E (⟨d, .slice t x lo hi mx, ty, pos, af, none⟩ :: rest) tm H ds = stV P G M ops N E (vslc (tdAt P t) (ev G tm x) (lo.map (ev G tm)) (hi.map (ev G tm)) (mx.map (ev G tm))) d rest tm H ds := by
  rw [w_val _ rfl rfl]
  refine congrArg (fun v => stV P G M ops N E v d rest tm H ds) ?_
  unfold vval vslc
  simp only [Array.toList, List.map_cons, List.map_nil]
  generalize tdAt P t = q
  generalize ev G tm x = x
  cases q with
  | none => rfl
  | some q =>
    cases q <;> first | rfl | (cases x with
      | val v => cases v <;> rfl
      | _ => rfl)
theorem w_lookup (d : Option Nat) (t : Nat) (x k : Operand) (ok : Bool) (ty : Nat) (pos : String) (af : Array Edge) (rest : List Oper) (tm : Nat → AV) (H : HM) (ds : List ADef) :
    wops P G M ops N E (⟨d, .lookup t x k ok, ty, pos, af, none⟩ :: rest) tm H ds = stV P G M ops N E (vlook P (tdAt P t) (entriesOf H (ev G tm x)) (keyOf (ev G tm k)) ok) d rest tm H ds := by
  rw [w_val _ rfl rfl]
  refine congrArg (fun v => stV P G M ops N E v d rest tm H ds) ?_
  unfold vval vlook
  simp only [Array.toList, List.map_cons, List.map_nil]
  generalize tdAt P t = q
  generalize entriesOf H (ev G tm x) = e
  generalize keyOf (ev G tm k) = k
  cases q with
  | none => rfl
  | some q =>
    cases q <;> first | rfl | (cases e <;> cases k <;> rfl)
theorem w_extract (d : Option Nat) (x : Operand) (i : Nat) (ty : Nat) (pos : String) (af : Array Edge) (rest : List Oper) (tm : Nat → AV) (H : HM) (ds : List ADef) :
    wops P G M ops N E (⟨d, .extract x i, ty, pos, af, none⟩ :: rest) tm H ds = stV P G M ops N E (vext (ev G tm x) i) d rest tm H ds := by
  rw [w_val _ rfl rfl]
  refine congrArg (fun v => stV P G M ops N E v d rest tm H ds) ?_
  unfold vval vext
  simp only [Array.toList, List.map_cons, List.map_nil]
  generalize ev G tm x = x
  cases x <;> rfl
theorem w_build (d : Option Nat) (t : Nat) (parts : Array (Nat × Operand)) (ty : Nat) (pos : String) (af : Array Edge) (rest : List Oper) (tm : Nat → AV) (H : HM) (ds : List ADef) :
    wops P G M ops N E (⟨d, .build t parts, ty, pos, af, none⟩ :: rest) tm H ds = stV P G M ops N E (vbld (tiOf P t) (parts.toList.map fun p => (p.1, ev G tm p.2))) d rest tm H ds := by
  rw [w_val _ rfl rfl]
  refine congrArg (fun v => stV P G M ops N E v d rest tm H ds) ?_
  unfold vval vbld
  simp only [Array.toList, List.map_cons, List.map_nil]
  generalize tiOf P t = q
  cases q <;> rfl
theorem w_makeFunc (d : Option Nat) (fn : Fn) (first cap : Array Operand) (ty : Nat) (pos : String) (af : Array Edge) (rest : List Oper) (tm : Nat → AV) (H : HM) (ds : List ADef) :
    wops P G M ops N E (⟨d, .makeFunc fn first cap, ty, pos, af, none⟩ :: rest) tm H ds = stV P G M ops N E (some (.func fn (first.toList.map (ev G tm)) (cap.toList.map (ev G tm)))) d rest tm H ds := w_val _ rfl rfl _ _ _ _
theorem w_makeInterface (d : Option Nat) (t : Nat) (x : Operand) (ty : Nat) (pos : String) (af : Array Edge) (rest : List Oper) (tm : Nat → AV) (H : HM) (ds : List ADef) :
    wops P G M ops N E (⟨d, .makeInterface t x, ty, pos, af, none⟩ :: rest) tm H ds = stV P G M ops N E (vmif (tdAt P t) t (ev G tm x)) d rest tm H ds := by
  rw [w_val _ rfl rfl]
  refine congrArg (fun v => stV P G M ops N E v d rest tm H ds) ?_
  unfold vval vmif
  simp only [Array.toList, List.map_cons, List.map_nil]
  generalize tdAt P t = q
  cases q with
  | none => rfl
  | some q => cases q <;> rfl
theorem w_len (d : Option Nat) (x : Operand) (t : Nat) (ty : Nat) (pos : String) (af : Array Edge) (rest : List Oper) (tm : Nat → AV) (H : HM) (ds : List ADef) :
    wops P G M ops N E (⟨d, .call ⟨.builtin .len, #[x], #[t]⟩, ty, pos, af, none⟩ :: rest) tm H ds = stV P G M ops N E (vlenb H (tdAt P t) (ev G tm x)) d rest tm H ds := w_val _ rfl rfl _ _ _ _
theorem w_min (d : Option Nat) (x y : Operand) (ts : Array Nat) (ty : Nat) (pos : String) (af : Array Edge) (rest : List Oper) (tm : Nat → AV) (H : HM) (ds : List ADef) :
    wops P G M ops N E (⟨d, .call ⟨.builtin .min, #[x, y], ts⟩, ty, pos, af, none⟩ :: rest) tm H ds = stV P G M ops N E (vmin (ev G tm x) (ev G tm y)) d rest tm H ds := by
  rw [w_val _ rfl rfl]
  refine congrArg (fun v => stV P G M ops N E v d rest tm H ds) ?_
  unfold vval vmin
  simp only [Array.toList, List.map_cons, List.map_nil]
  generalize ev G tm x = x
  generalize ev G tm y = y
  cases x with
  | val v => cases v with
    | int k a => cases y with
      | val u => cases u <;> rfl
      | _ => rfl
    | _ => rfl
  | _ => rfl
theorem w_max (d : Option Nat) (x y : Operand) (ts : Array Nat) (ty : Nat) (pos : String) (af : Array Edge) (rest : List Oper) (tm : Nat → AV) (H : HM) (ds : List ADef) :
    wops P G M ops N E (⟨d, .call ⟨.builtin .max, #[x, y], ts⟩, ty, pos, af, none⟩ :: rest) tm H ds = stV P G M ops N E (vmax (ev G tm x) (ev G tm y)) d rest tm H ds := by
  rw [w_val _ rfl rfl]
  refine congrArg (fun v => stV P G M ops N E v d rest tm H ds) ?_
  unfold vval vmax
  simp only [Array.toList, List.map_cons, List.map_nil]
  generalize ev G tm x = x
  generalize ev G tm y = y
  cases x with
  | val v => cases v with
    | int k a => cases y with
      | val u => cases u <;> rfl
      | _ => rfl
    | _ => rfl
  | _ => rfl

/-! ### Calls and objects -/
theorem w_call (d : Option Nat) (f : Operand) (as : Array Operand) (ats : Array Nat) (ty : Nat) (pos : String) (af : Array Edge) (rest : List Oper) (tm : Nat → AV) (H : HM) (ds : List ADef) :
    wops P G M ops N E (⟨d, .call ⟨.value f, as, ats⟩, ty, pos, af, none⟩ :: rest) tm H ds = wcall P G M ops N E (ev G tm f) (as.toList.map (ev G tm)) d rest tm H ds := by
  rw [vop_kont _ _ _ _ _ rfl]; rfl
def wapp (P : Program) (G : GT) (M : List Nat) (ops : Array Oper) (N : AS → Prop) (E : AV → AS → Prop) (m : Bool) (ts tx : Nat) (s x : AV) (d : Option Nat) (rest : List Oper) (tm : Nat → AV) (H : HM) (ds : List ADef) : Prop :=
  if m then vappendI P H ts tx s x (kont P G M ops N E d rest tm ds) else vappend P H ts tx s x (kont P G M ops N E d rest tm ds)
theorem wapp_f (ts tx : Nat) (s x : AV) (d : Option Nat) (rest : List Oper) (tm : Nat → AV) (H : HM) (ds : List ADef) : wapp P G M ops N E false ts tx s x d rest tm H ds = vappend P H ts tx s x (kont P G M ops N E d rest tm ds) := rfl
theorem wapp_t (ts tx : Nat) (s x : AV) (d : Option Nat) (rest : List Oper) (tm : Nat → AV) (H : HM) (ds : List ADef) : wapp P G M ops N E true ts tx s x d rest tm H ds = vappendI P H ts tx s x (kont P G M ops N E d rest tm ds) := rfl
theorem w_append (d : Option Nat) (s x : Operand) (ts tx : Nat) (ty : Nat) (pos : String) (af : Array Edge) (rest : List Oper) (tm : Nat → AV) (H : HM) (ds : List ADef) :
    wops P G M ops N E (⟨d, .call ⟨.builtin .append, #[s, x], #[ts, tx]⟩, ty, pos, af, none⟩ :: rest) tm H ds = wapp P G M ops N E (isImm M d) ts tx (ev G tm s) (ev G tm x) d rest tm H ds := by
  rw [vop_kont _ _ _ _ _ rfl]; rfl
def wnew (P : Program) (G : GT) (M : List Nat) (ops : Array Oper) (N : AS → Prop) (E : AV → AS → Prop) (o : AObj) (isMap : Bool) (d : Option Nat) (rest : List Oper) (tm : Nat → AV) (H : HM) (ds : List ADef) : Prop :=
  ∀ b, H b = none → wops P G M ops N E rest (putT d (if isMap then .map b else .addr b 0) tm) (H.upd b o) ds
def wbox (P : Program) (G : GT) (M : List Nat) (ops : Array Oper) (N : AS → Prop) (E : AV → AS → Prop) (m : Bool) (t : Nat) (x : AV) (d : Option Nat) (rest : List Oper) (tm : Nat → AV) (H : HM) (ds : List ADef) : Prop :=
  x.one = true ∧ (if m then wnew P G M ops N E (.cells t x.cells) false d rest tm H ds else wops P G M ops N E rest (putT d (.ref x.cells) tm) H ds)
theorem w_box (d : Option Nat) (t : Nat) (x : Operand) (ty : Nat) (pos : String) (af : Array Edge) (rest : List Oper) (tm : Nat → AV) (H : HM) (ds : List ADef) :
    wops P G M ops N E (⟨d, .box t x, ty, pos, af, none⟩ :: rest) tm H ds = wbox P G M ops N E (isMut M d) t (ev G tm x) d rest tm H ds := by
  rw [vop_kont _ _ _ _ _ rfl]; unfold wbox vx wnew; simp only []; cases isMut M d <;> rfl
theorem wbox_t (t : Nat) (x : AV) (d : Option Nat) (rest : List Oper) (tm : Nat → AV) (H : HM) (ds : List ADef) : wbox P G M ops N E true t x d rest tm H ds = (x.one = true ∧ wnew P G M ops N E (.cells t x.cells) false d rest tm H ds) := rfl
theorem wbox_f (t : Nat) (x : AV) (d : Option Nat) (rest : List Oper) (tm : Nat → AV) (H : HM) (ds : List ADef) : wbox P G M ops N E false t x d rest tm H ds = (x.one = true ∧ wops P G M ops N E rest (putT d (.ref x.cells) tm) H ds) := rfl
def walloc (P : Program) (G : GT) (M : List Nat) (ops : Array Oper) (N : AS → Prop) (E : AV → AS → Prop) (t : Nat) (ti : Option TI) (d : Option Nat) (rest : List Oper) (tm : Nat → AV) (H : HM) (ds : List ADef) : Prop :=
  match ti with
  | some ti => ti.zero.one = true ∧ wnew P G M ops N E (.cells t ti.zero.cells) false d rest tm H ds
  | none => False
theorem w_alloc (d : Option Nat) (t : Nat) (ty : Nat) (pos : String) (af : Array Edge) (rest : List Oper) (tm : Nat → AV) (H : HM) (ds : List ADef) :
    wops P G M ops N E (⟨d, .alloc t, ty, pos, af, none⟩ :: rest) tm H ds = walloc P G M ops N E t (tiOf P t) d rest tm H ds := by
  rw [vop_kont _ _ _ _ _ rfl]; unfold walloc vx wnew; simp only []; cases tiOf P t <;> rfl
theorem walloc_some (t : Nat) (ti : TI) (d : Option Nat) (rest : List Oper) (tm : Nat → AV) (H : HM) (ds : List ADef) : walloc P G M ops N E t (some ti) d rest tm H ds = (ti.zero.one = true ∧ wnew P G M ops N E (.cells t ti.zero.cells) false d rest tm H ds) := rfl
theorem w_makeMap (d : Option Nat) (t : Nat) (ty : Nat) (pos : String) (af : Array Edge) (rest : List Oper) (tm : Nat → AV) (H : HM) (ds : List ADef) :
    wops P G M ops N E (⟨d, .makeMap t none, ty, pos, af, none⟩ :: rest) tm H ds = wnew P G M ops N E (.map []) true d rest tm H ds := by
  rw [vop_kont _ _ _ _ _ rfl]; rfl
def wst (P : Program) (G : GT) (M : List Nat) (ops : Array Oper) (N : AS → Prop) (E : AV → AS → Prop) (ti : Option TI) (a x : AV) (d : Option Nat) (rest : List Oper) (tm : Nat → AV) (H : HM) (ds : List ADef) : Prop :=
  match ti, a with
  | some ti, .addr b off => match H b with
    | some (.cells et cs) => (x.cells.length = ti.size ∧ off + ti.size ≤ cs.length ∧ x.one = true) ∧ wops P G M ops N E rest (putT d .unit tm) (H.upd b (.cells et (splice cs off x.cells))) ds
    | _ => False
  | some ti, .elem b i sz off => match H b with
    | some (.row et sz' cap xs) => sz = sz' ∧ x.cells.length = ti.size ∧ x.one = true ∧
      match xs[i]? with
      | some x0 => match elemPut x0 off x sz with
        | some v' => wops P G M ops N E rest (putT d .unit tm) (H.upd b (.row et sz cap (xs.set i v'))) ds
        | none => False
      | none => False
    | _ => False
  | _, _ => False
def wstA (P : Program) (G : GT) (M : List Nat) (ops : Array Oper) (N : AS → Prop) (E : AV → AS → Prop) (o : Option AObj) (b off sz : Nat) (x : AV) (d : Option Nat) (rest : List Oper) (tm : Nat → AV) (H : HM) (ds : List ADef) : Prop :=
  match o with
  | some (.cells et cs) => (x.cells.length = sz ∧ off + sz ≤ cs.length ∧ x.one = true) ∧ wops P G M ops N E rest (putT d .unit tm) (H.upd b (.cells et (splice cs off x.cells))) ds
  | _ => False
def wstE (P : Program) (G : GT) (M : List Nat) (ops : Array Oper) (N : AS → Prop) (E : AV → AS → Prop) (b et sz cap i : Nat) (xs : List AV) (v : Option AV) (d : Option Nat) (rest : List Oper) (tm : Nat → AV) (H : HM) (ds : List ADef) : Prop :=
  match v with
  | some v' => wops P G M ops N E rest (putT d .unit tm) (H.upd b (.row et sz cap (xs.set i v'))) ds
  | none => False
theorem w_store (d : Option Nat) (t : Nat) (a x : Operand) (ty : Nat) (pos : String) (af : Array Edge) (rest : List Oper) (tm : Nat → AV) (H : HM) (ds : List ADef) :
    wops P G M ops N E (⟨d, .store t a x, ty, pos, af, none⟩ :: rest) tm H ds = wst P G M ops N E (tiOf P t) (ev G tm a) (ev G tm x) d rest tm H ds := by
  rw [vop_kont _ _ _ _ _ rfl]; rfl
theorem wst_addr (ti : TI) (b off : Nat) (x : AV) (d : Option Nat) (rest : List Oper) (tm : Nat → AV) (H : HM) (ds : List ADef) :
    wst P G M ops N E (some ti) (.addr b off) x d rest tm H ds = wstA P G M ops N E (H b) b off ti.size x d rest tm H ds := by
  unfold wst wstA; rfl
theorem wstA_cells (et : Nat) (cs : List AV) (b off sz : Nat) (x : AV) (d : Option Nat) (rest : List Oper) (tm : Nat → AV) (H : HM) (ds : List ADef) :
    wstA P G M ops N E (some (.cells et cs)) b off sz x d rest tm H ds = ((x.cells.length = sz ∧ off + sz ≤ cs.length ∧ x.one = true) ∧ wops P G M ops N E rest (putT d .unit tm) (H.upd b (.cells et (splice cs off x.cells))) ds) := rfl
theorem wst_elem (ti : TI) (b i sz off : Nat) (x : AV) {et cap : Nat} {xs : List AV} {x0 : AV} (d : Option Nat) (rest : List Oper) (tm : Nat → AV) (H : HM) (ds : List ADef) (hb : H b = some (.row et sz cap xs)) (hx : xs[i]? = some x0) :
    wst P G M ops N E (some ti) (.elem b i sz off) x d rest tm H ds = (x.cells.length = ti.size ∧ x.one = true ∧ wstE P G M ops N E b et sz cap i xs (elemPut x0 off x sz) d rest tm H ds) := by
  simp only [wst, wstE, hb, hx, true_and]
theorem wstE_some (b et sz cap i : Nat) (xs : List AV) (v : AV) (d : Option Nat) (rest : List Oper) (tm : Nat → AV) (H : HM) (ds : List ADef) :
    wstE P G M ops N E b et sz cap i xs (some v) d rest tm H ds = wops P G M ops N E rest (putT d .unit tm) (H.upd b (.row et sz cap (xs.set i v))) ds := rfl
def wput (P : Program) (G : GT) (M : List Nat) (ops : Array Oper) (N : AS → Prop) (E : AV → AS → Prop) (td : Option TD) (m : AV) (k : Option Value) (x : AV) (d : Option Nat) (rest : List Oper) (tm : Nat → AV) (H : HM) (ds : List ADef) : Prop :=
  match td, m, k with
  | some (.map kt et), .map b, some key => match tdAt P kt, H b with
    | some kd, some (.map es) => keyFits kd key = true ∧ keysOk kd es = true ∧ wops P G M ops N E rest (putT d .unit tm) (H.upd b (.map (assocSet key x es))) ds
    | _, _ => False
  | _, _, _ => False
def wput1 (P : Program) (G : GT) (M : List Nat) (ops : Array Oper) (N : AS → Prop) (E : AV → AS → Prop) (kd : Option TD) (o : Option AObj) (b : Nat) (key : Value) (x : AV) (d : Option Nat) (rest : List Oper) (tm : Nat → AV) (H : HM) (ds : List ADef) : Prop :=
  match kd, o with
  | some kd, some (.map es) => keyFits kd key = true ∧ keysOk kd es = true ∧ wops P G M ops N E rest (putT d .unit tm) (H.upd b (.map (assocSet key x es))) ds
  | _, _ => False
theorem w_mapUpdate (d : Option Nat) (t : Nat) (m k x : Operand) (ty : Nat) (pos : String) (af : Array Edge) (rest : List Oper) (tm : Nat → AV) (H : HM) (ds : List ADef) :
    wops P G M ops N E (⟨d, .mapUpdate t m k x, ty, pos, af, none⟩ :: rest) tm H ds = wput P G M ops N E (tdAt P t) (ev G tm m) (keyOf (ev G tm k)) (ev G tm x) d rest tm H ds := by
  rw [vop_kont _ _ _ _ _ rfl]; rfl
theorem w_insert (d : Option Nat) (t : Nat) (m k x : Operand) (ty : Nat) (pos : String) (af : Array Edge) (rest : List Oper) (tm : Nat → AV) (H : HM) (ds : List ADef) :
    wops P G M ops N E (⟨d, .insert t m k x, ty, pos, af, none⟩ :: rest) tm H ds = wput P G M ops N E (tdAt P t) (ev G tm m) (keyOf (ev G tm k)) (ev G tm x) d rest tm H ds := by
  rw [vop_kont _ _ _ _ _ rfl]; rfl
theorem wput_map (kt et b : Nat) (key : Value) (x : AV) (d : Option Nat) (rest : List Oper) (tm : Nat → AV) (H : HM) (ds : List ADef) :
    wput P G M ops N E (some (.map kt et)) (.map b) (some key) x d rest tm H ds = wput1 P G M ops N E (tdAt P kt) (H b) b key x d rest tm H ds := rfl
theorem wput1_map (kd : TD) (es : List (AV × AV)) (b : Nat) (key : Value) (x : AV) (d : Option Nat) (rest : List Oper) (tm : Nat → AV) (H : HM) (ds : List ADef) :
    wput1 P G M ops N E (some kd) (some (.map es)) b key x d rest tm H ds = (keyFits kd key = true ∧ keysOk kd es = true ∧ wops P G M ops N E rest (putT d .unit tm) (H.upd b (.map (assocSet key x es))) ds) := rfl
/-- What a literal of a slice asks. -/
def bsOk (P : Program) (e sz len : Nat) (is : List Nat) (xs : List AV) : Prop :=
  is = List.range len ∧ (∀ x ∈ xs, x.cells.length = sz ∧ x.one = true) ∧ sz ≠ 0 ∧ len * sz ≤ 16777216 ∧ (tiOf P e).isSome = true
theorem bs_ok {e sz len : Nat} {is : List Nat} {xs : List AV} (h : (is == List.range len && Nat.ble 1 sz && Nat.ble (len * sz) 16777216 && (tiOf P e).isSome) = true) (h2 : ∀ x ∈ xs, x.cells.length = sz ∧ x.one = true) : bsOk P e sz len is xs := by
  simp only [Bool.and_eq_true, beq_iff_eq] at h
  exact ⟨h.1.1.1, h2, by have := Nat.le_of_ble_eq_true h.1.1.2; omega, Nat.le_of_ble_eq_true h.1.2, h.2⟩
def wbs (P : Program) (G : GT) (M : List Nat) (ops : Array Oper) (N : AS → Prop) (E : AV → AS → Prop) (td : Option TD) (len : Nat) (is : List Nat) (xs : List AV) (d : Option Nat) (rest : List Oper) (tm : Nat → AV) (H : HM) (ds : List ADef) : Prop :=
  match td with
  | some (.slice e sz) => if len = 0 then is = [] ∧ wops P G M ops N E rest (putT d .nil0 tm) H ds else
      bsOk P e sz len is xs ∧ wops P G M ops N E rest (putT d (.list xs) tm) H ds
  | _ => False
theorem w_buildSlice (d : Option Nat) (t len : Nat) (parts : Array (Nat × Operand)) (ty : Nat) (pos : String) (af : Array Edge) (rest : List Oper) (tm : Nat → AV) (H : HM) (ds : List ADef) :
    wops P G M ops N E (⟨d, .buildSlice t len parts, ty, pos, af, none⟩ :: rest) tm H ds = wbs P G M ops N E (tdAt P t) len (parts.toList.map (·.1)) (parts.toList.map fun p => ev G tm p.2) d rest tm H ds := by
  rw [vop_kont _ _ _ _ _ rfl]
  unfold wbs vx bsOk
  simp only []
  cases tdAt P t with
  | none => rfl
  | some td =>
    cases td with
    | slice e sz =>
      simp only []
      split
      · simp only [List.map_eq_nil_iff]; rfl
      · simp only [List.mem_map, forall_exists_index, and_imp, forall_apply_eq_imp_iff₂, and_assoc]; rfl
    | _ => rfl
theorem wbs_some (e sz len : Nat) (is : List Nat) (xs : List AV) (d : Option Nat) (rest : List Oper) (tm : Nat → AV) (H : HM) (ds : List ADef) :
    wbs P G M ops N E (some (.slice e sz)) len is xs d rest tm H ds = if len = 0 then (is = [] ∧ wops P G M ops N E rest (putT d .nil0 tm) H ds) else (bsOk P e sz len is xs ∧ wops P G M ops N E rest (putT d (.list xs) tm) H ds) := rfl
def wrg (P : Program) (G : GT) (M : List Nat) (ops : Array Oper) (N : AS → Prop) (E : AV → AS → Prop) (td : Option TD) (x : AV) (d : Option Nat) (rest : List Oper) (tm : Nat → AV) (H : HM) (ds : List ADef) : Prop :=
  match td, x with
  | some .str, .val (.string s) => wnew P G M ops N E (.siter s 0) false d rest tm H ds
  | some (.map _ _), .imap es => wnew P G M ops N E (.miter es []) false d rest tm H ds
  | _, _ => False
theorem w_range (d : Option Nat) (t : Nat) (x : Operand) (ty : Nat) (pos : String) (af : Array Edge) (rest : List Oper) (tm : Nat → AV) (H : HM) (ds : List ADef) :
    wops P G M ops N E (⟨d, .range t x, ty, pos, af, none⟩ :: rest) tm H ds = wrg P G M ops N E (tdAt P t) (ev G tm x) d rest tm H ds := by
  rw [vop_kont _ _ _ _ _ rfl]; rfl
theorem wrg_str (s : ByteArray) (d : Option Nat) (rest : List Oper) (tm : Nat → AV) (H : HM) (ds : List ADef) : wrg P G M ops N E (some .str) (.val (.string s)) d rest tm H ds = wnew P G M ops N E (.siter s 0) false d rest tm H ds := rfl
theorem wrg_map (k e : Nat) (es : List (AV × AV)) (d : Option Nat) (rest : List Oper) (tm : Nat → AV) (H : HM) (ds : List ADef) : wrg P G M ops N E (some (.map k e)) (.imap es) d rest tm H ds = wnew P G M ops N E (.miter es []) false d rest tm H ds := rfl
def wnx (P : Program) (G : GT) (M : List Nat) (ops : Array Oper) (N : AS → Prop) (E : AV → AS → Prop) (o : Option AObj) (isS : Bool) (b : Nat) (d : Option Nat) (rest : List Oper) (tm : Nat → AV) (H : HM) (ds : List ADef) : Prop :=
  match o, isS with
  | some (.siter s pos), true => (pos < s.size → wops P G M ops N E rest (putT d (.tup [.bool true, .int pos, .val (.int .i32 (Utf8.decode s pos).1)]) tm) (H.upd b (.siter s (pos + (Utf8.decode s pos).2))) ds) ∧
      (¬ pos < s.size → wops P G M ops N E rest (putT d (.tup [.bool false]) tm) H ds)
  | some (.miter es seen), false => ((∀ j, j < es.length → j ∈ seen) → wops P G M ops N E rest (putT d (.tup [.bool false]) tm) H ds) ∧
      ∀ j e, es[j]? = some e → j ∉ seen → wops P G M ops N E rest (putT d (.tup [.bool true, e.1, e.2]) tm) (H.upd b (.miter es (seen ++ [j]))) ds
  | _, _ => False
def wnxt (P : Program) (G : GT) (M : List Nat) (ops : Array Oper) (N : AS → Prop) (E : AV → AS → Prop) (x : AV) (isS : Bool) (d : Option Nat) (rest : List Oper) (tm : Nat → AV) (H : HM) (ds : List ADef) : Prop :=
  match x with
  | .addr b 0 => wnx P G M ops N E (H b) isS b d rest tm H ds
  | _ => False
theorem w_next (d : Option Nat) (x : Operand) (isS : Bool) (ty : Nat) (pos : String) (af : Array Edge) (rest : List Oper) (tm : Nat → AV) (H : HM) (ds : List ADef) :
    wops P G M ops N E (⟨d, .next x isS, ty, pos, af, none⟩ :: rest) tm H ds = wnxt P G M ops N E (ev G tm x) isS d rest tm H ds := by
  rw [vop_kont _ _ _ _ _ rfl]; rfl
theorem wnxt_addr (b : Nat) (isS : Bool) (d : Option Nat) (rest : List Oper) (tm : Nat → AV) (H : HM) (ds : List ADef) : wnxt P G M ops N E (.addr b 0) isS d rest tm H ds = wnx P G M ops N E (H b) isS b d rest tm H ds := rfl
def wnxS (P : Program) (G : GT) (M : List Nat) (ops : Array Oper) (N : AS → Prop) (E : AV → AS → Prop) (s : ByteArray) (pos b : Nat) (d : Option Nat) (rest : List Oper) (tm : Nat → AV) (H : HM) (ds : List ADef) : Prop :=
  (pos < s.size → wops P G M ops N E rest (putT d (.tup [.bool true, .int pos, .val (.int .i32 (Utf8.decode s pos).1)]) tm) (H.upd b (.siter s (pos + (Utf8.decode s pos).2))) ds) ∧
      (¬ pos < s.size → wops P G M ops N E rest (putT d (.tup [.bool false]) tm) H ds)
def wnxM (P : Program) (G : GT) (M : List Nat) (ops : Array Oper) (N : AS → Prop) (E : AV → AS → Prop) (es : List (AV × AV)) (seen : List Nat) (b : Nat) (d : Option Nat) (rest : List Oper) (tm : Nat → AV) (H : HM) (ds : List ADef) : Prop :=
  ((∀ j, j < es.length → j ∈ seen) → wops P G M ops N E rest (putT d (.tup [.bool false]) tm) H ds) ∧
      ∀ j e, es[j]? = some e → j ∉ seen → wops P G M ops N E rest (putT d (.tup [.bool true, e.1, e.2]) tm) (H.upd b (.miter es (seen ++ [j]))) ds
theorem wnx_str (s : ByteArray) (pos b : Nat) (d : Option Nat) (rest : List Oper) (tm : Nat → AV) (H : HM) (ds : List ADef) : wnx P G M ops N E (some (.siter s pos)) true b d rest tm H ds = wnxS P G M ops N E s pos b d rest tm H ds := rfl
theorem wnx_map (es : List (AV × AV)) (seen : List Nat) (b : Nat) (d : Option Nat) (rest : List Oper) (tm : Nat → AV) (H : HM) (ds : List ADef) : wnx P G M ops N E (some (.miter es seen)) false b d rest tm H ds = wnxM P G M ops N E es seen b d rest tm H ds := rfl
theorem wnxS_yes {s : ByteArray} {pos b : Nat} {d : Option Nat} {rest : List Oper} {tm : Nat → AV} {H : HM} {ds : List ADef} (h : pos < s.size) (hk : wops P G M ops N E rest (putT d (.tup [.bool true, .int pos, .val (.int .i32 (Utf8.decode s pos).1)]) tm) (H.upd b (.siter s (pos + (Utf8.decode s pos).2))) ds) :
    wnxS P G M ops N E s pos b d rest tm H ds := ⟨fun _ => hk, fun q => absurd h q⟩
theorem wnxS_no {s : ByteArray} {pos b : Nat} {d : Option Nat} {rest : List Oper} {tm : Nat → AV} {H : HM} {ds : List ADef} (h : ¬ pos < s.size) (hk : wops P G M ops N E rest (putT d (.tup [.bool false]) tm) H ds) :
    wnxS P G M ops N E s pos b d rest tm H ds := ⟨fun q => absurd q h, fun _ => hk⟩
def wen (P : Program) (G : GT) (M : List Nat) (ops : Array Oper) (N : AS → Prop) (E : AV → AS → Prop) (x : AV) (d : Option Nat) (rest : List Oper) (tm : Nat → AV) (H : HM) (ds : List ADef) : Prop :=
  match x with
  | .addr b 0 => match H b with
    | some (.miter es seen) => ∃ j e, seen.getLast? = some j ∧ es[j]? = some e ∧ wops P G M ops N E rest (putT d (.tup [e.1, e.2]) tm) H ds
    | _ => False
  | _ => False
theorem w_entry (d : Option Nat) (x : Operand) (ty : Nat) (pos : String) (af : Array Edge) (rest : List Oper) (tm : Nat → AV) (H : HM) (ds : List ADef) :
    wops P G M ops N E (⟨d, .entry x, ty, pos, af, none⟩ :: rest) tm H ds = wen P G M ops N E (ev G tm x) d rest tm H ds := by
  rw [vop_kont _ _ _ _ _ rfl]; rfl
theorem wen_ok {b : Nat} {es : List (AV × AV)} {seen : List Nat} {j : Nat} {e : AV × AV} {d : Option Nat} {rest : List Oper} {tm : Nat → AV} {H : HM} {ds : List ADef} (hb : H b = some (.miter es (seen ++ [j]))) (he : es[j]? = some e)
    (hk : wops P G M ops N E rest (putT d (.tup [e.1, e.2]) tm) H ds) : wen P G M ops N E (.addr b 0) d rest tm H ds := by
  unfold wen; simp only [hb]; exact ⟨j, e, by simp, he, hk⟩
def wcpy (P : Program) (G : GT) (M : List Nat) (ops : Array Oper) (N : AS → Prop) (E : AV → AS → Prop) (td : Nat) (a x : AV) (d : Option Nat) (rest : List Oper) (tm : Nat → AV) (H : HM) (ds : List ADef) : Prop :=
  vcopy P H td a x (kont P G M ops N E d rest tm ds)
theorem w_copy (d : Option Nat) (a x : Operand) (td tx : Nat) (ty : Nat) (pos : String) (af : Array Edge) (rest : List Oper) (tm : Nat → AV) (H : HM) (ds : List ADef) :
    wops P G M ops N E (⟨d, .call ⟨.builtin .copy, #[a, x], #[td, tx]⟩, ty, pos, af, none⟩ :: rest) tm H ds = wcpy P G M ops N E td (ev G tm a) (ev G tm x) d rest tm H ds := by
  rw [vop_kont _ _ _ _ _ rfl]; rfl
theorem wcpy_row {td e sz b n cap cap' e' : Nat} {xs ys : List AV} {d : Option Nat} {rest : List Oper} {tm : Nat → AV} {H : HM} {ds : List ADef} (h1 : tdAt P td = some (.slice e sz)) (hb : H b = some (.row e' sz cap' xs)) (hn : n = xs.length) (hle : xs.length ≤ ys.length)
    (hz : ∀ y ∈ ys, y.cells.length = sz) (hk : wops P G M ops N E rest (putT d (.int n) tm) (H.upd b (.row e' sz cap' (ys.take n))) ds) : wcpy P G M ops N E td (.mlist b n cap) (.list ys) d rest tm H ds := by
  unfold wcpy vcopy; simp only [h1, hb]; exact ⟨trivial, hn, hle, hz, hk⟩
theorem wcpy_nil {td e sz : Nat} {ys : List AV} {d : Option Nat} {rest : List Oper} {tm : Nat → AV} {H : HM} {ds : List ADef} (h1 : tdAt P td = some (.slice e sz)) (hk : wops P G M ops N E rest (putT d (.int 0) tm) H ds) : wcpy P G M ops N E td .nil0 (.list ys) d rest tm H ds := by
  unfold wcpy vcopy; simp only [h1]; exact hk
end
end Go.V
