/- Values by rewriting. No condition. -/
import Derived.Test.YtjeiboididfgmaaGreatDoorVh
set_option linter.unusedVariables false
set_option linter.unusedSimpArgs false
set_option linter.defProp false
namespace Go.V
open Go
/-- The entry k of a list that begins with entry i. -/
def nthF {α : Type} : Nat → List α → Nat → Option α
  | _, [], _ => none
  | i, a :: as, k => if k = i then some a else nthF (i + 1) as k
theorem nthF_get {α : Type} : ∀ (l : List α) (i k : Nat), i ≤ k → nthF i l k = l[k - i]?
  | [], _, _, _ => by simp [nthF]
  | a :: as, i, k, h => by
    unfold nthF
    split
    · rename_i e; subst e; simp
    · rw [nthF_get as (i + 1) k (by omega)]
      have : k - i = (k - (i + 1)) + 1 := by omega
      rw [this, List.getElem?_cons_succ]
theorem nthF_nil {α : Type} (i k : Nat) : nthF i ([] : List α) k = none := rfl
theorem nthF_cons {α : Type} (a : α) (as : List α) (i k : Nat) : nthF i (a :: as) k = if k = i then some a else nthF (i + 1) as k := rfl
theorem arr_nth {α : Type} (l : List α) (k : Nat) : l.toArray[k]? = nthF 0 l k := by rw [nthF_get l 0 k (Nat.zero_le _)]; simp
theorem get_nth {α : Type} (l : List α) (k : Nat) : l[k]? = nthF 0 l k := by rw [nthF_get l 0 k (Nat.zero_le _)]; simp
def start : Nat → List AV → Nat → AV
  | _, [] => fun _ => .unit
  | i, a :: as => upd (start (i + 1) as) i a
theorem start_eq : ∀ (as : List AV) (i k : Nat), start i as (i + k) = as.getD k .unit
  | [], _, _ => rfl
  | a :: as, i, 0 => by simp [start, upd]
  | a :: as, i, k + 1 => by
    have := start_eq as (i + 1) k
    simp only [start, upd]
    rw [if_neg (by omega), show i + (k + 1) = i + 1 + k from by omega, this]; simp
theorem start_nil (i : Nat) : start i [] = fun _ => .unit := rfl
theorem start_cons (i : Nat) (a : AV) (as : List AV) : start i (a :: as) = upd (start (i + 1) as) i a := rfl

section
variable {P : Program} {G : GT} {H : HM}
/-- A contract out of a body. -/
theorem CallF_body {f : FuncId} {fn : Func} {c : Code} {args : List AV} {K : ARes → HM → Prop} (hf : P.funcs[f]? = some fn) (hb : fn.body = some c) (hc : cok fn.ntmps c = true) (hn : args.length ≤ fn.ntmps)
    (h : VW P G fn.ntmps none c (Fin P G fn K) ⟨start 0 args, H, []⟩) : CallF P G f args H K := by
  refine CallF_intro hf hb hc hn ?_
  have : (fun i => args.getD i .unit) = start 0 args := by
    funext i; have := start_eq args 0 i; rw [Nat.zero_add] at this; exact this.symm
  rw [this]; exact h
theorem Pure_body {f : FuncId} {fn : Func} {c : Code} {args : List AV} {v : AV} (hf : P.funcs[f]? = some fn) (hb : fn.body = some c) (hp : Plain P f = true) (hc : cok fn.ntmps c = true) (hn : args.length ≤ fn.ntmps)
    (h : ∀ K : ARes → HM → Prop, K (.ret v) H → VW P G fn.ntmps none c (Fin P G fn K) ⟨start 0 args, H, []⟩) : PureF P G f args H v :=
  ⟨hp, fun K hk => CallF_body hf hb hc hn (h K hk)⟩
theorem Fin_ret {fn : Func} {K : ARes → HM → Prop} {tm : Nat → AV} {v : AV} (hv : vresults P fn H tm = some v) (hk : K (.ret v) H) : Fin P G fn K .ret ⟨tm, H, []⟩ :=
  ⟨(fun d hd => by cases hd), v, v, H, hv, Drop.refl H, View.refl v, hk⟩
theorem Fin_end {fn : Func} {K : ARes → HM → Prop} {tm : Nat → AV} {v : AV} (hv : vresults P fn H tm = some v) (hk : K (.ret v) H) : Fin P G fn K .normal ⟨tm, H, []⟩ :=
  ⟨(fun d hd => by cases hd), v, v, H, hv, Drop.refl H, View.refl v, hk⟩
/-- At an end where objects are let go. -/
theorem Fin_drop {fn : Func} {K : ARes → HM → Prop} {tm : Nat → AV} {H1 : HM} {v v' : AV} (hv : vresults P fn H tm = some v) (hd : Drop H H1) (hw : View G H H1 v v') (hk : K (.ret v') H1) : Fin P G fn K .ret ⟨tm, H, []⟩ :=
  ⟨(fun d hd => by cases hd), v, v', H1, hv, hd, hw, hk⟩
theorem Drop.trans {H0 H1 H2 : HM} (h : Drop H0 H1) (h' : Drop H1 H2) : Drop H0 H2 := fun b => by
  rcases h' b with e | e
  · exact .inl e
  · rcases h b with e' | e'
    · exact .inl (e.trans e')
    · exact .inr (e.trans e')
theorem Drop.upd {b : Nat} {o : AObj} (h : H b = none) : Drop (H.upd b o) H := fun k => by
  by_cases hk : k = b
  · subst hk; exact .inl h
  · exact .inr (HM.upd_ne _ _ hk).symm
theorem upd_fresh {b c : Nat} {o : AObj} (h : (H.upd b o) c = none) : c ≠ b ∧ H c = none := by
  unfold HM.upd at h
  split at h
  · cases h
  · exact ⟨by assumption, h⟩
theorem Fin_ret1 {fn : Func} {K : ARes → HM → Prop} {tm : Nat → AV} (t : Nat) (hr : fn.results = #[.tmp t]) (hk : K (.ret (tm t)) H) : Fin P G fn K .ret ⟨tm, H, []⟩ :=
  Fin_ret (v := tm t) (by simp [vresults, vresL, vres, hr]) hk
/-- A result by value; objects let go. -/
theorem Fin_retD {fn : Func} {K : ARes → HM → Prop} {tm : Nat → AV} {H1 : HM} (t : Nat) (hr : fn.results = #[.tmp t]) (hd : Drop H H1) (hk : K (.ret (tm t)) H1) : Fin P G fn K .ret ⟨tm, H, []⟩ :=
  ⟨(fun d hd => by cases hd), tm t, tm t, H1, by simp [vresults, vresL, vres, hr], hd, View.of_drop hd _, hk⟩
theorem Fin_ret2 {fn : Func} {K : ARes → HM → Prop} {tm : Nat → AV} (t u : Nat) (hr : fn.results = #[.tmp t, .tmp u]) (hk : K (.ret (.tup [tm t, tm u])) H) : Fin P G fn K .ret ⟨tm, H, []⟩ :=
  Fin_ret (v := .tup [tm t, tm u]) (by simp [vresults, vresL, vres, hr]) hk
theorem Fin_ret0 {fn : Func} {K : ARes → HM → Prop} {tm : Nat → AV} (hr : fn.results = #[]) (hk : K (.ret .unit) H) : Fin P G fn K .ret ⟨tm, H, []⟩ :=
  Fin_ret (v := .unit) (by simp [vresults, vresL, vres, hr]) hk
theorem vresults_one {fn : Func} {tm : Nat → AV} (t : Nat) (h : fn.results = #[.tmp t]) : vresults P fn H tm = some (tm t) := by
  simp [vresults, vresL, vres, h]
theorem vresults_two {fn : Func} {tm : Nat → AV} (t u : Nat) (h : fn.results = #[.tmp t, .tmp u]) : vresults P fn H tm = some (.tup [tm t, tm u]) := by
  simp [vresults, vresL, vres, h]
theorem vresults_none {fn : Func} {tm : Nat → AV} (h : fn.results = #[]) : vresults P fn H tm = some .unit := by
  simp [vresults, vresL, vres, h]
theorem vbin_i_add (t : Nat) (k : IntKind) (a b : Int) : vbin P .add t (.val (.int k a)) (.val (.int k b)) = some (.val (.int k (k.wrap (a + b)))) := by simp [vbin]
theorem vbin_i_sub (t : Nat) (k : IntKind) (a b : Int) : vbin P .sub t (.val (.int k a)) (.val (.int k b)) = some (.val (.int k (k.wrap (a - b)))) := by simp [vbin]
theorem vbin_i_mul (t : Nat) (k : IntKind) (a b : Int) : vbin P .mul t (.val (.int k a)) (.val (.int k b)) = some (.val (.int k (k.wrap (a * b)))) := by simp [vbin]
theorem vbin_i_eql (t : Nat) (k : IntKind) (a b : Int) : vbin P .eql t (.val (.int k a)) (.val (.int k b)) = some (.val (.bool (decide (a = b)))) := by simp [vbin]
theorem vbin_i_neq (t : Nat) (k : IntKind) (a b : Int) : vbin P .neq t (.val (.int k a)) (.val (.int k b)) = some (.val (.bool (!decide (a = b)))) := by simp [vbin]
theorem vbin_i_lss (t : Nat) (k : IntKind) (a b : Int) : vbin P .lss t (.val (.int k a)) (.val (.int k b)) = some (.val (.bool (decide (a < b)))) := by simp [vbin]
theorem vbin_i_leq (t : Nat) (k : IntKind) (a b : Int) : vbin P .leq t (.val (.int k a)) (.val (.int k b)) = some (.val (.bool (decide (a ≤ b)))) := by simp [vbin]
theorem vbin_i_gtr (t : Nat) (k : IntKind) (a b : Int) : vbin P .gtr t (.val (.int k a)) (.val (.int k b)) = some (.val (.bool (decide (b < a)))) := by simp [vbin]
theorem vbin_i_geq (t : Nat) (k : IntKind) (a b : Int) : vbin P .geq t (.val (.int k a)) (.val (.int k b)) = some (.val (.bool (decide (b ≤ a)))) := by simp [vbin]
theorem vbin_i_quo (t : Nat) (k : IntKind) (a b : Int) : vbin P .quo t (.val (.int k a)) (.val (.int k b)) = if b = 0 then none else some (.val (.int k (k.wrap (a.tdiv b)))) := by simp [vbin]
theorem vbin_i_rem (t : Nat) (k : IntKind) (a b : Int) : vbin P .rem t (.val (.int k a)) (.val (.int k b)) = if b = 0 then none else some (.val (.int k (a.tmod b))) := by simp [vbin]
theorem vbin_s_add (t : Nat) (a b : ByteArray) : vbin P .add t (.val (.string a)) (.val (.string b)) = if a.size + b.size ≤ lim then some (.val (.string (a ++ b))) else none := rfl
theorem vbin_s_eql (t : Nat) (a b : ByteArray) : vbin P .eql t (.val (.string a)) (.val (.string b)) = some (.val (.bool (decide (a = b)))) := rfl
theorem vbin_s_neq (t : Nat) (a b : ByteArray) : vbin P .neq t (.val (.string a)) (.val (.string b)) = some (.val (.bool (!decide (a = b)))) := rfl
theorem vbin_s_lss (t : Nat) (a b : ByteArray) : vbin P .lss t (.val (.string a)) (.val (.string b)) = some (.val (.bool (strLt a b))) := rfl
theorem vbin_s_leq (t : Nat) (a b : ByteArray) : vbin P .leq t (.val (.string a)) (.val (.string b)) = some (.val (.bool (strLt a b || decide (a = b)))) := rfl
theorem vbin_s_gtr (t : Nat) (a b : ByteArray) : vbin P .gtr t (.val (.string a)) (.val (.string b)) = some (.val (.bool (!(strLt a b || decide (a = b))))) := rfl
theorem vbin_s_geq (t : Nat) (a b : ByteArray) : vbin P .geq t (.val (.string a)) (.val (.string b)) = some (.val (.bool (!strLt a b))) := rfl
def vbb : Option TD → Bool → Option AV
  | some .bool, b => some (.val (.bool b))
  | _, _ => none
theorem vbb_bool (b : Bool) : vbb (some .bool) b = some (.val (.bool b)) := rfl
theorem vbin_b_eql (t : Nat) (a b : Bool) : vbin P .eql t (.val (.bool a)) (.val (.bool b)) = vbb (tdAt P t) (a == b) := by unfold vbin vbb; cases tdAt P t with
  | none => rfl
  | some d => cases d <;> rfl
theorem vbin_b_neq (t : Nat) (a b : Bool) : vbin P .neq t (.val (.bool a)) (.val (.bool b)) = vbb (tdAt P t) (!(a == b)) := by unfold vbin vbb; cases tdAt P t with
  | none => rfl
  | some d => cases d <;> rfl
def vnl (e : Bool) : Option TD → AV → Value → Option AV
  | some d, x, n => (vnil d x n).map fun b => .val (.bool (if e then b else !b))
  | none, _, _ => none
theorem vbin_m_eql_21 (t : Nat)  : vbin P .eql t (.val (.map none)) (.val (.map none)) = vnl true (tdAt P t) (.val (.map none)) (.map none) := by unfold vbin vnl; cases tdAt P t <;> rfl
theorem vbin_m_neq_22 (t : Nat)  : vbin P .neq t (.val (.map none)) (.val (.map none)) = vnl false (tdAt P t) (.val (.map none)) (.map none) := by unfold vbin vnl; cases tdAt P t <;> rfl
theorem vbin_m_eql_23 (t : Nat) (m : Nat) : vbin P .eql t (.map m) (.val (.map none)) = vnl true (tdAt P t) (.map m) (.map none) := by unfold vbin vnl; cases tdAt P t <;> rfl
theorem vbin_m_neq_24 (t : Nat) (m : Nat) : vbin P .neq t (.map m) (.val (.map none)) = vnl false (tdAt P t) (.map m) (.map none) := by unfold vbin vnl; cases tdAt P t <;> rfl
theorem vbin_m_eql_25 (t : Nat) (es : List (AV × AV)) : vbin P .eql t (.imap es) (.val (.map none)) = vnl true (tdAt P t) (.imap es) (.map none) := by unfold vbin vnl; cases tdAt P t <;> rfl
theorem vbin_m_neq_26 (t : Nat) (es : List (AV × AV)) : vbin P .neq t (.imap es) (.val (.map none)) = vnl false (tdAt P t) (.imap es) (.map none) := by unfold vbin vnl; cases tdAt P t <;> rfl
theorem vbin_p_eql_27 (t : Nat)  : vbin P .eql t (.val (.pointer none)) (.val (.pointer none)) = vnl true (tdAt P t) (.val (.pointer none)) (.pointer none) := by unfold vbin vnl; cases tdAt P t <;> rfl
theorem vbin_p_neq_28 (t : Nat)  : vbin P .neq t (.val (.pointer none)) (.val (.pointer none)) = vnl false (tdAt P t) (.val (.pointer none)) (.pointer none) := by unfold vbin vnl; cases tdAt P t <;> rfl
theorem vbin_p_eql_29 (t : Nat) (cs : List AV) : vbin P .eql t (.ref cs) (.val (.pointer none)) = vnl true (tdAt P t) (.ref cs) (.pointer none) := by unfold vbin vnl; cases tdAt P t <;> rfl
theorem vbin_p_neq_30 (t : Nat) (cs : List AV) : vbin P .neq t (.ref cs) (.val (.pointer none)) = vnl false (tdAt P t) (.ref cs) (.pointer none) := by unfold vbin vnl; cases tdAt P t <;> rfl
theorem vbin_p_eql_31 (t : Nat) (b o : Nat) : vbin P .eql t (.addr b o) (.val (.pointer none)) = vnl true (tdAt P t) (.addr b o) (.pointer none) := by unfold vbin vnl; cases tdAt P t <;> rfl
theorem vbin_p_neq_32 (t : Nat) (b o : Nat) : vbin P .neq t (.addr b o) (.val (.pointer none)) = vnl false (tdAt P t) (.addr b o) (.pointer none) := by unfold vbin vnl; cases tdAt P t <;> rfl
theorem vnl_m0 (e : Bool) (k v : Nat) : vnl e (some (.map k v)) (.val (.map none)) (.map none) = some (.val (.bool e)) := by cases e <;> rfl
theorem vnl_m1 (e : Bool) (k v m : Nat) : vnl e (some (.map k v)) (.map m) (.map none) = some (.val (.bool !e)) := by cases e <;> rfl
theorem vnl_m2 (e : Bool) (k v : Nat) (es : List (AV × AV)) : vnl e (some (.map k v)) (.imap es) (.map none) = some (.val (.bool !e)) := by cases e <;> rfl
theorem vnl_p0 (e : Bool) : vnl e (some .ptr) (.val (.pointer none)) (.pointer none) = some (.val (.bool e)) := by cases e <;> rfl
theorem vnl_p1 (e : Bool) (cs : List AV) : vnl e (some .ptr) (.ref cs) (.pointer none) = some (.val (.bool !e)) := by cases e <;> rfl
theorem vnl_p2 (e : Bool) (b o : Nat) : vnl e (some .ptr) (.addr b o) (.pointer none) = some (.val (.bool !e)) := by cases e <;> rfl
theorem vload_some (ti : TI) (cs : List AV) : vload (some ti) (some cs) = ldv ti cs := rfl
theorem ldv_int (k : IntKind) (sz by_ : Nat) (zz : AV) (cs : List AV) : ldv ⟨.int k, sz, by_, zz⟩ cs = cs.head? := rfl
theorem ldv_bool  (sz by_ : Nat) (zz : AV) (cs : List AV) : ldv ⟨.bool, sz, by_, zz⟩ cs = cs.head? := rfl
theorem ldv_str  (sz by_ : Nat) (zz : AV) (cs : List AV) : ldv ⟨.str, sz, by_, zz⟩ cs = cs.head? := rfl
theorem ldv_ptr  (sz by_ : Nat) (zz : AV) (cs : List AV) : ldv ⟨.ptr, sz, by_, zz⟩ cs = cs.head? := rfl
theorem ldv_slice (e z : Nat) (sz by_ : Nat) (zz : AV) (cs : List AV) : ldv ⟨.slice e z, sz, by_, zz⟩ cs = cs.head? := rfl
theorem ldv_map (e z : Nat) (sz by_ : Nat) (zz : AV) (cs : List AV) : ldv ⟨.map e z, sz, by_, zz⟩ cs = cs.head? := rfl
theorem ldv_func  (sz by_ : Nat) (zz : AV) (cs : List AV) : ldv ⟨.func, sz, by_, zz⟩ cs = cs.head? := rfl
theorem ldv_iface  (sz by_ : Nat) (zz : AV) (cs : List AV) : ldv ⟨.iface, sz, by_, zz⟩ cs = cs.head? := rfl
theorem ldv_other  (sz by_ : Nat) (zz : AV) (cs : List AV) : ldv ⟨.other, sz, by_, zz⟩ cs = cs.head? := rfl
theorem ldv_struct (fs : List (Nat × Nat × Bool)) (sz by_ : Nat) (zz : AV) (cs : List AV) : ldv ⟨.struct fs, sz, by_, zz⟩ cs = if sz ≤ cs.length then some (.agg (cs.take sz)) else none := rfl
theorem ldv_arr (l e z : Nat) (sz by_ : Nat) (zz : AV) (cs : List AV) : ldv ⟨.arr l e z, sz, by_, zz⟩ cs = if sz ≤ cs.length then some (.agg (cs.take sz)) else none := rfl
theorem cellsAt_ref (cs : List AV) : cellsAt H (.ref cs) = some cs := rfl
def caA : Option AObj → Nat → Option (List AV)
  | some (.cells _ cs), off => some (cs.drop off)
  | _, _ => none
def caE : Option AObj → Nat → Nat → Nat → Option (List AV)
  | some (.row _ sz' _ xs), i, sz, off => if sz = sz' then (xs[i]?).map fun x => x.cells.drop off else none
  | _, _, _, _ => none
theorem cellsAt_addr (b off : Nat) : cellsAt H (.addr b off) = caA (H b) off := by
  show (match H b with | some (.cells _ cs) => some (cs.drop off) | _ => none) = _
  cases H b with
  | none => rfl
  | some o => cases o <;> rfl
theorem caA_cells (t : Nat) (cs : List AV) (off : Nat) : caA (some (.cells t cs)) off = some (cs.drop off) := rfl
theorem cellsAt_elem (b i sz off : Nat) : cellsAt H (.elem b i sz off) = caE (H b) i sz off := by
  show (match H b with | some (.row _ sz' _ xs) => if sz = sz' then (xs[i]?).map (fun x : AV => x.cells.drop off) else none | _ => none) = _
  cases H b with
  | none => rfl
  | some o => cases o <;> rfl
theorem caE_row (t sz cap : Nat) (xs : List AV) (i off : Nat) : caE (some (.row t sz cap xs)) i sz off = (xs[i]?).map fun x => x.cells.drop off := by simp [caE]
theorem vpick_t (a b : AV) : vpick (.val (.bool true)) a b = some a := rfl
theorem vpick_f (a b : AV) : vpick (.val (.bool false)) a b = some b := rfl
theorem vpick_s (t : Bool) (a b : AV) : vpick (.val (.bool t)) a b = some (if t then a else b) := rfl
theorem vnilc_ref (cs : List AV) : vnilc (.ref cs) = some (.ref cs) := rfl
theorem vnilc_addr (b o : Nat) : vnilc (.addr b o) = some (.addr b o) := rfl
theorem vnilc_elem (b i sz o : Nat) : vnilc (.elem b i sz o) = some (.elem b i sz o) := rfl
theorem vun_not (b : Bool) : vun .not (.val (.bool b)) = some (.val (.bool !b)) := rfl
theorem vun_neg (k : IntKind) (i : Int) : vun .neg (.val (.int k i)) = some (.val (.int k (k.wrap (0 - i)))) := rfl
theorem vconv_int (d : TD) (k k' : IntKind) (i : Int) : vconv (some d) (some (.int k)) (.val (.int k' i)) = some (.val (.int k (k.wrap i))) := rfl
theorem vconv_str (d : TD) (s : ByteArray) : vconv (some d) (some .str) (.val (.string s)) = some (.val (.string s)) := rfl
theorem vconv_rune (d : TD) (k : IntKind) (i : Int) : vconv (some d) (some .str) (.val (.int k i)) = if (Utf8.encode i).size ≤ lim then some (.val (.string (Utf8.encode i))) else none := rfl
theorem vfad_ref (off fz : Nat) (g : Bool) (cs : List AV) : vfad (some (off, fz, g)) (.ref cs) = if fz = 0 then none else some (.ref (cs.drop off)) := rfl
theorem vfad_addr (off fz : Nat) (g : Bool) (b o : Nat) : vfad (some (off, fz, g)) (.addr b o) = if fz = 0 then none else some (.addr b (o + off)) := rfl
theorem vfad_elem (off fz : Nat) (g : Bool) (b i sz o : Nat) : vfad (some (off, fz, g)) (.elem b i sz o) = if fz = 0 then none else some (.elem b i sz (o + off)) := rfl
theorem vfld_agg (off sz : Nat) (cs : List AV) : vfld (some (off, sz, true)) (.agg cs) = if off + sz ≤ cs.length then some (.agg ((cs.drop off).take sz)) else none := rfl
theorem vfld_one (off sz : Nat) (cs : List AV) : vfld (some (off, sz, false)) (.agg cs) = cs[off]? := rfl
theorem fieldOf_struct (fs : List (Nat × Nat × Bool)) (sz by_ : Nat) (zz : AV) (i : Nat) : fieldOf ⟨.struct fs, sz, by_, zz⟩ i = nthF 0 fs i := by rw [← get_nth]; rfl
theorem vixa_list (e sz : Nat) (xs : List AV) (k : IntKind) (i : Int) : vixa (some (.slice e sz)) (.list xs) (.val (.int k i)) = if 0 ≤ i then (xs[i.toNat]?).bind fun x => if x.cells.length = sz then some (.ref x.cells) else none else none := rfl
theorem vixa_mlist (e sz b n c : Nat) (k : IntKind) (i : Int) : vixa (some (.slice e sz)) (.mlist b n c) (.val (.int k i)) = if 0 ≤ i ∧ i < n then some (.elem b i.toNat sz 0) else none := rfl
theorem vixa_arr (len e sz : Nat) (cs : List AV) (k : IntKind) (i : Int) : vixa (some (.arr len e sz)) (.ref cs) (.val (.int k i)) = if 0 ≤ i ∧ i < len then some (.ref (cs.drop (i.toNat * sz))) else none := rfl
theorem vix_str (s : ByteArray) (k : IntKind) (i : Int) : vix (some .str) (.val (.string s)) (.val (.int k i)) = if 0 ≤ i then (s[i.toNat]?).map fun c => .val (.int .u8 c.toNat) else none := rfl
theorem vslc_str (s : ByteArray) (lo hi mx : Option AV) : vslc (some .str) (.val (.string s)) lo hi mx = vslice lo hi mx (.val (.string s)) := rfl
theorem vslc_list (e sz : Nat) (xs : List AV) (lo hi mx : Option AV) : vslc (some (.slice e sz)) (.list xs) lo hi mx = if ∀ x ∈ xs, x.cells.length = sz then vslice lo hi mx (.list xs) else none := rfl
theorem vslc_nil0 (e sz : Nat) (lo hi mx : Option AV) : vslc (some (.slice e sz)) .nil0 lo hi mx = vslice lo hi mx .nil0 := rfl
theorem vslice_s_lo (s : ByteArray) (k : IntKind) (l : Int) : vslice (some (.val (.int k l))) none none (.val (.string s)) = if 0 ≤ l ∧ l ≤ s.size then some (.val (.string (s.extract l.toNat s.size))) else none := rfl
theorem vslice_s_hi (s : ByteArray) (k : IntKind) (h : Int) : vslice none (some (.val (.int k h))) none (.val (.string s)) = if 0 ≤ h ∧ h ≤ s.size then some (.val (.string (s.extract 0 h.toNat))) else none := rfl
theorem vslice_s_lh (s : ByteArray) (k k' : IntKind) (l h : Int) : vslice (some (.val (.int k l))) (some (.val (.int k' h))) none (.val (.string s)) = if 0 ≤ l ∧ l ≤ h ∧ h ≤ s.size then some (.val (.string (s.extract l.toNat h.toNat))) else none := rfl
theorem vslice_l_lo (xs : List AV) (k : IntKind) (l : Int) : vslice (some (.val (.int k l))) none none (.list xs) = if 0 ≤ l ∧ l ≤ xs.length then some (.list (xs.drop l.toNat)) else none := rfl
theorem vslice_l_hi (xs : List AV) (k : IntKind) (h : Int) : vslice none (some (.val (.int k h))) none (.list xs) = if 0 ≤ h ∧ h ≤ xs.length then some (.list (xs.take h.toNat)) else none := rfl
theorem vslice_l_lh (xs : List AV) (k k' : IntKind) (l h : Int) : vslice (some (.val (.int k l))) (some (.val (.int k' h))) none (.list xs) = if 0 ≤ l ∧ l ≤ h ∧ h ≤ xs.length then some (.list ((xs.take h.toNat).drop l.toNat)) else none := rfl
theorem vslice_l_00 (xs : List AV) (k k' : IntKind) : vslice none (some (.val (.int k 0))) (some (.val (.int k' 0))) (.list xs) = some .nil0 := rfl
theorem vslice_n_00 (k k' : IntKind) : vslice none (some (.val (.int k 0))) (some (.val (.int k' 0))) .nil0 = some .nil0 := rfl
theorem vslice_n_0 (k : IntKind) : vslice none (some (.val (.int k 0))) none .nil0 = some .nil0 := rfl
theorem entries_none : entriesOf H (.val (.map none)) = some [] := rfl
theorem entries_imap (es : List (AV × AV)) : entriesOf H (.imap es) = some es := rfl
def eoM : Option AObj → Option (List (AV × AV))
  | some (.map es) => some es
  | _ => none
theorem entries_map (b : Nat) : entriesOf H (.map b) = eoM (H b) := by unfold entriesOf eoM; rfl
theorem eoM_map (es : List (AV × AV)) : eoM (some (.map es)) = some es := rfl
theorem keyOf_str (s : ByteArray) : keyOf (.val (.string s)) = some (.string s) := rfl
theorem keyOf_int (k : IntKind) (i : Int) : keyOf (.val (.int k i)) = some (.int k i) := rfl
theorem keyOf_bool (b : Bool) : keyOf (.val (.bool b)) = some (.bool b) := rfl
def vlk (kd : Option TD) (ei : Option TI) (es : List (AV × AV)) (key : Value) (ok : Bool) : Option AV :=
  match kd, ei with
  | some kd, some ei => if keyFits kd key && keysOk kd es then
      (match assoc key es with
       | some v => some (if ok then .tup [v, .bool true] else v)
       | none => some (if ok then .tup [ei.zero, .bool false] else ei.zero))
    else none
  | _, _ => none
theorem vlook_map (kt et : Nat) (es : List (AV × AV)) (key : Value) (ok : Bool) : vlook P (some (.map kt et)) (some es) (some key) ok = vlk (tdAt P kt) (tiOf P et) es key ok := rfl
theorem vext_tup (vs : List AV) (i : Nat) : vext (.tup vs) i = nthF 0 vs i := by rw [← get_nth]; rfl
theorem vbld_struct (fs : List (Nat × Nat × Bool)) (sz by_ : Nat) (z : List AV) (ps : List (Nat × AV)) : vbld (some ⟨.struct fs, sz, by_, .agg z⟩) ps = vval.vbuild fs z ps := rfl
theorem vbuild_nil (fs : List (Nat × Nat × Bool)) (z : List AV) : vval.vbuild fs z [] = some (.agg z) := rfl
theorem vbuild_cons (fs : List (Nat × Nat × Bool)) (z : List AV) (i : Nat) (v : AV) (rest : List (Nat × AV)) : vval.vbuild fs z ((i, v) :: rest) = match nthF 0 fs i with | some (off, sz, _) => if v.cells.length = sz ∧ off + sz ≤ z.length ∧ v.one = true then vval.vbuild fs (z.take off ++ v.cells ++ z.drop (off + sz)) rest else none | none => none := by
  rw [vval.vbuild, ← get_nth]; rcases fs[i]? with _ | ⟨a, b, c⟩ <;> rfl
theorem vmif_int (k : IntKind) (t : Nat) (x : AV) : vmif (some (.int k)) t x = some (.iface t x) := rfl
theorem vmif_str  (t : Nat) (x : AV) : vmif (some (.str)) t x = some (.iface t x) := rfl
theorem vmif_ptr  (t : Nat) (x : AV) : vmif (some (.ptr)) t x = some (.iface t x) := rfl
theorem vmif_struct (fs : List (Nat × Nat × Bool)) (t : Nat) (x : AV) : vmif (some (.struct fs)) t x = some (.iface t x) := rfl
theorem vlen_s (s : ByteArray) : vlenb H (some .str) (.val (.string s)) = some (.int s.size) := rfl
theorem vlen_l (e z : Nat) (xs : List AV) : vlenb H (some (.slice e z)) (.list xs) = some (.int xs.length) := rfl
theorem vlen_n (e z : Nat) : vlenb H (some (.slice e z)) .nil0 = some (.int 0) := rfl
theorem vlen_ml (e z b n c : Nat) : vlenb H (some (.slice e z)) (.mlist b n c) = some (.int n) := rfl
theorem vlen_m0 (e z : Nat) : vlenb H (some (.map e z)) (.val (.map none)) = some (.int 0) := rfl
theorem vlen_im (e z : Nat) (es : List (AV × AV)) : vlenb H (some (.map e z)) (.imap es) = some (.int es.length) := rfl
theorem vmin_i (k : IntKind) (x y : Int) : vmin (.val (.int k x)) (.val (.int k y)) = some (.val (.int k (if y < x then y else x))) := by simp [vmin]
theorem vmax_i (k : IntKind) (x y : Int) : vmax (.val (.int k x)) (.val (.int k y)) = some (.val (.int k (if x < y then y else x))) := by simp [vmax]
theorem cells_agg (cs : List AV) : (AV.agg cs).cells = cs := rfl
theorem cells_val (v : Value) : (AV.val v).cells = [.val v] := rfl
theorem cells_list (xs : List AV) : (AV.list xs).cells = [.list xs] := rfl
theorem cells_nil0 : AV.nil0.cells = [.nil0] := rfl
theorem cells_ref (cs : List AV) : (AV.ref cs).cells = [.ref cs] := rfl
theorem cells_addr (b o : Nat) : (AV.addr b o).cells = [.addr b o] := rfl
theorem cells_mlist (b n c : Nat) : (AV.mlist b n c).cells = [.mlist b n c] := rfl
theorem cells_map (b : Nat) : (AV.map b).cells = [.map b] := rfl
theorem cells_imap (es : List (AV × AV)) : (AV.imap es).cells = [.imap es] := rfl
theorem cells_func (f : Fn) (a b : List AV) : (AV.func f a b).cells = [.func f a b] := rfl
theorem cells_iface (t : Nat) (v : AV) : (AV.iface t v).cells = [.iface t v] := rfl
theorem one_agg (cs : List AV) : (AV.agg cs).one = true := rfl
theorem one_int (k : IntKind) (i : Int) : (AV.val (.int k i)).one = true := rfl
theorem one_str (s : ByteArray) : (AV.val (.string s)).one = true := rfl
theorem one_bool (b : Bool) : (AV.val (.bool b)).one = true := rfl
theorem one_map0 (b : Option Nat) : (AV.val (.map b)).one = true := rfl
theorem one_ptr0 (b : Option Addr) : (AV.val (.pointer b)).one = true := rfl
theorem one_list (xs : List AV) : (AV.list xs).one = true := rfl
theorem one_nil0 : AV.nil0.one = true := rfl
theorem one_ref (cs : List AV) : (AV.ref cs).one = true := rfl
theorem one_addr (b o : Nat) : (AV.addr b o).one = true := rfl
theorem one_mlist (b n c : Nat) : (AV.mlist b n c).one = true := rfl
theorem one_map (b : Nat) : (AV.map b).one = true := rfl
theorem one_imap (es : List (AV × AV)) : (AV.imap es).one = true := rfl
theorem one_func (f : Fn) (a b : List AV) : (AV.func f a b).one = true := rfl
theorem one_iface (t : Nat) (v : AV) : (AV.iface t v).one = true := rfl
theorem wrap64 {n : Int} (h1 : -9223372036854775808 ≤ n) (h2 : n < 9223372036854775808) : IntKind.i64.wrap n = n := by
  have e : (2 : Int) ^ 64 = 18446744073709551616 := by decide
  have e' : (2 : Int) ^ (64 - 1) = 9223372036854775808 := by decide
  unfold IntKind.wrap
  simp only [IntKind.signed, IntKind.bits, Bool.true_and, decide_eq_true_eq, e, e']
  split <;> omega
end
def WS := And.intro @vbin_i_add <| And.intro @vbin_i_sub <| And.intro @vbin_i_mul <| And.intro @vbin_i_eql <| And.intro @vbin_i_neq <| And.intro @vbin_i_lss <| And.intro @vbin_i_leq <| And.intro @vbin_i_gtr <| And.intro @vbin_i_geq <| And.intro @vbin_i_quo <| And.intro @vbin_i_rem <| And.intro @vbin_s_add <| And.intro @vbin_s_eql <| And.intro @vbin_s_neq <| And.intro @vbin_s_lss <| And.intro @vbin_s_leq <| And.intro @vbin_s_gtr <| And.intro @vbin_s_geq <| And.intro @vbb_bool <| And.intro @vbin_b_eql <| And.intro @vbin_b_neq <| And.intro @vbin_m_eql_21 <| And.intro @vbin_m_neq_22 <| And.intro @vbin_m_eql_23 <| And.intro @vbin_m_neq_24 <| And.intro @vbin_m_eql_25 <| And.intro @vbin_m_neq_26 <| And.intro @vbin_p_eql_27 <| And.intro @vbin_p_neq_28 <| And.intro @vbin_p_eql_29 <| And.intro @vbin_p_neq_30 <| And.intro @vbin_p_eql_31 <| And.intro @vbin_p_neq_32 <| And.intro @vnl_m0 <| And.intro @vnl_m1 <| And.intro @vnl_m2 <| And.intro @vnl_p0 <| And.intro @vnl_p1 <| And.intro @vnl_p2 <| And.intro @vload_some <| And.intro @ldv_int <| And.intro @ldv_bool <| And.intro @ldv_str <| And.intro @ldv_ptr <| And.intro @ldv_slice <| And.intro @ldv_map <| And.intro @ldv_func <| And.intro @ldv_iface <| And.intro @ldv_other <| And.intro @ldv_struct <| And.intro @ldv_arr <| And.intro @cellsAt_ref <| And.intro @cellsAt_addr <| And.intro @caA_cells <| And.intro @cellsAt_elem <| And.intro @caE_row <| And.intro @vpick_t <| And.intro @vpick_f <| And.intro @vpick_s <| And.intro @vnilc_ref <| And.intro @vnilc_addr <| And.intro @vnilc_elem <| And.intro @vun_not <| And.intro @vun_neg <| And.intro @vconv_int <| And.intro @vconv_str <| And.intro @vconv_rune <| And.intro @vfad_ref <| And.intro @vfad_addr <| And.intro @vfad_elem <| And.intro @vfld_agg <| And.intro @vfld_one <| And.intro @fieldOf_struct <| And.intro @vixa_list <| And.intro @vixa_mlist <| And.intro @vixa_arr <| And.intro @vix_str <| And.intro @vslc_str <| And.intro @vslc_list <| And.intro @vslc_nil0 <| And.intro @vslice_s_lo <| And.intro @vslice_s_hi <| And.intro @vslice_s_lh <| And.intro @vslice_l_lo <| And.intro @vslice_l_hi <| And.intro @vslice_l_lh <| And.intro @vslice_l_00 <| And.intro @vslice_n_00 <| And.intro @vslice_n_0 <| And.intro @entries_none <| And.intro @entries_imap <| And.intro @entries_map <| And.intro @eoM_map <| And.intro @keyOf_str <| And.intro @keyOf_int <| And.intro @keyOf_bool <| And.intro @vlook_map <| And.intro @vext_tup <| And.intro @vbld_struct <| And.intro @vbuild_nil <| And.intro @vbuild_cons <| And.intro @vmif_int <| And.intro @vmif_str <| And.intro @vmif_ptr <| And.intro @vmif_struct <| And.intro @vlen_s <| And.intro @vlen_l <| And.intro @vlen_n <| And.intro @vlen_ml <| And.intro @vlen_m0 <| And.intro @vlen_im <| And.intro @vmin_i <| And.intro @vmax_i <| And.intro @cells_agg <| And.intro @cells_val <| And.intro @cells_list <| And.intro @cells_nil0 <| And.intro @cells_ref <| And.intro @cells_addr <| And.intro @cells_mlist <| And.intro @cells_map <| And.intro @cells_imap <| And.intro @cells_func <| And.intro @cells_iface <| And.intro @one_agg <| And.intro @one_int <| And.intro @one_str <| And.intro @one_bool <| And.intro @one_map0 <| And.intro @one_ptr0 <| And.intro @one_list <| And.intro @one_nil0 <| And.intro @one_ref <| And.intro @one_addr <| And.intro @one_mlist <| And.intro @one_map <| And.intro @one_imap <| And.intro @one_func <| And.intro @one_iface <| And.intro @arr_nth <| And.intro @nthF_cons <| And.intro @nthF_nil <| And.intro @start_nil <| And.intro @start_cons <| And.intro @List.getElem?_cons_zero.{0} <| And.intro @List.getElem?_cons_succ.{0} <| And.intro @List.getElem?_nil.{0} <| And.intro @List.toList_toArray.{0} <| And.intro @List.map_cons.{0, 0} <| And.intro @List.map_nil.{0, 0} <| And.intro @List.head?_cons.{0} <| And.intro @List.drop_succ_cons.{0} <| And.intro @List.drop_zero.{0} <| And.intro @List.take_succ_cons.{0} <| And.intro @List.take_zero.{0} <| And.intro @List.length_cons.{0} <| And.intro @List.length_nil.{0} <| And.intro @Option.bind_some.{0, 0} <| And.intro @Option.map_some.{0, 0} <| And.intro @Option.map_none.{0, 0} <| And.intro @Option.bind_none.{0, 0} <| And.intro @List.getD_cons_zero.{0} <| And.intro @List.getD_cons_succ.{0} <| And.intro @HM.upd_same <| And.intro @Bool.not_true <| And.intro @Bool.not_false <| And.intro @true_and <| And.intro @and_true <| And.intro @List.cons_append.{0} <| And.intro @List.nil_append.{0} @List.drop_nil.{0}
end Go.V
