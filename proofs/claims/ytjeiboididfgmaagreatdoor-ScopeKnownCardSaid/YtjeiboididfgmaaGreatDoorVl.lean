/- Lists that grow; expressions as data. No condition. -/
import Derived.Test.YtjeiboididfgmaaGreatDoorVk
set_option linter.unusedVariables false
set_option linter.unusedSimpArgs false
set_option linter.defProp false
namespace Go.V
open Go

section
variable {P : Program} {G : GT} {M : List Nat} {ops : Array Oper} {N : AS → Prop} {E : AV → AS → Prop} {n : Nat} {r : Option Nat} {Q : AX → AS → Prop} {s : AS} {H H0 H1 : HM}

/-- A slice variable that began as nil and has been appended to: its elements. -/
def OutG (H0 H : HM) (v : AV) (e sz : Nat) (xs : List AV) : Prop :=
  (xs = [] ∧ v = .nil0 ∧ Drop H H0) ∨ ∃ b cap, H0 b = none ∧ v = .mlist b xs.length cap ∧ Drop H (H0.upd b (.row e sz cap xs))
theorem OutG.nil (h : Drop H H0) (e sz : Nat) : OutG H0 H .nil0 e sz [] := .inl ⟨rfl, rfl, h⟩
theorem OutG.drop {v : AV} {e sz : Nat} {xs : List AV} (h : OutG H0 H v e sz xs) : Drop H H0 := by
  rcases h with ⟨_, _, h⟩ | ⟨b, cap, h1, _, h⟩
  · exact h
  · exact h.trans (Drop.upd h1)
theorem OutG.view {v : AV} {e sz : Nat} {xs : List AV} (h : OutG H0 H v e sz xs) (hl : xs.length ≤ lim) : View G H H0 v (.list xs) := by
  rcases h with ⟨rfl, rfl, h⟩ | ⟨b, cap, h1, rfl, h⟩
  · exact View.nil0 h
  · refine View.trans h (View.of_drop h _) (View.row (Drop.upd h1) (HM.upd_same _ _ _) h1 rfl hl)
theorem Drop.get {b : Nat} {o : AObj} (h : Drop H (H0.upd b o)) : H b = some o := by
  rcases h b with e | e
  · rw [HM.upd_same] at e; cases e
  · rw [HM.upd_same] at e; exact e.symm
theorem OutG.len {v : AV} {e sz : Nat} {xs : List AV} (h : OutG H0 H v e sz xs) : vlenb H (some (.slice e sz)) v = some (.int xs.length) := by
  rcases h with ⟨rfl, rfl, h⟩ | ⟨b, cap, h1, rfl, h⟩ <;> rfl
theorem OutG.one {v : AV} {e sz : Nat} {xs : List AV} (h : OutG H0 H v e sz xs) : v.one = true := by
  rcases h with ⟨rfl, rfl, h⟩ | ⟨b, cap, h1, rfl, h⟩ <;> rfl
theorem OutG.mono {v : AV} {e sz : Nat} {xs : List AV} (hd : Drop H1 H) (h : OutG H0 H v e sz xs) : OutG H0 H1 v e sz xs := by
  rcases h with ⟨h1, h2, h⟩ | ⟨b, cap, h1, h2, h⟩
  · exact .inl ⟨h1, h2, hd.trans h⟩
  · exact .inr ⟨b, cap, h1, h2, hd.trans h⟩
/-- A type that append takes its elements from. -/
def srcTd : TD → Bool
  | .int _ | .other => false
  | _ => true
def apOk (P : Program) (ts tx e sz : Nat) : Bool := match tdAt P ts, tdAt P tx, tiOf P e with
  | some (.slice e' sz'), some td, some ei => Nat.beq e' e && Nat.beq sz' sz && srcTd td && Nat.ble ei.bytes 1024
  | _, _, _ => false
theorem apOk_some {ts tx e sz : Nat} (h : apOk P ts tx e sz = true) : ∃ td ei, tdAt P ts = some (.slice e sz) ∧ tdAt P tx = some td ∧ tiOf P e = some ei ∧ srcTd td = true ∧ ei.bytes ≤ 1024 := by
  unfold apOk at h
  split at h
  · rename_i e' sz' td ei h1 h2 h3
    simp only [Bool.and_eq_true] at h
    have q1 := Nat.eq_of_beq_eq_true h.1.1.1
    have q2 := Nat.eq_of_beq_eq_true h.1.1.2
    subst q1 q2
    exact ⟨td, ei, h1, h2, h3, h.1.2, Nat.le_of_ble_eq_true h.2⟩
  · cases h
theorem vappend_out {ts tx e sz : Nat} {v x : AV} {xs ys : List AV} {K : ARes → HM → Prop} (hc : apOk P ts tx e sz = true) (h : OutG H0 H v e sz xs) (hx : srcOf H x = some ys) (hne : ∀ b n c, x ≠ .mlist b n c)
    (hy : ∀ y ∈ ys, y.cells.length = sz) (hl : xs.length + ys.length ≤ lim) (hk : ∀ v' H', OutG H0 H' v' e sz (xs ++ ys) → K (.ret v') H') : vappend P H ts tx v x K := by
  obtain ⟨td, ei, hts, htx, hei, htd, hb⟩ := apOk_some hc
  have ht : (match tdAt P tx with | some (.int _) => False | some .other => False | some _ => True | none => False) := by
    rw [htx]; cases td <;> simp_all [srcTd]
  unfold vappend
  simp only [hts, hei, hx]
  refine ⟨ht, hb, hy, ?_⟩
  rcases h with ⟨rfl, rfl, h⟩ | ⟨b, cap, h1, rfl, h⟩
  · refine ⟨by simpa using hl, fun e0 => ?_, fun b cap hbn hc => ?_⟩
    · exact hk _ _ (.inl ⟨by simp [e0], rfl, h⟩)
    · refine hk _ _ (.inr ⟨b, cap, by rcases h b with q | q <;> simp [q, hbn], by simp, fun k => ?_⟩)
      simp only [List.nil_append]
      by_cases hkb : k = b
      · subst hkb; right; rw [HM.upd_same, HM.upd_same]
      · rw [HM.upd_ne _ _ hkb, HM.upd_ne _ _ hkb]; exact h k
  · have hbk := h.get
    simp only [hbk, true_and]
    refine ⟨hne _ _ _, hl, fun b' cap' hbn hc => ?_⟩
    have hb0 : H0 b' = none := by
      rcases hbn with q | ⟨rfl, _⟩
      · by_cases hbb : b' = b
        · subst hbb; exact h1
        · rcases h b' with q' | q' <;> rw [HM.upd_ne _ _ hbb] at q' <;> simp [q', q]
      · exact h1
    refine hk _ _ (.inr ⟨b', cap', hb0, rfl, fun k => ?_⟩)
    by_cases hkb : k = b'
    · subst hkb; right; rw [HM.upd_same, HM.upd_same]
    · rw [HM.upd_ne _ _ hkb, HM.upd_ne _ _ hkb]
      by_cases hkb2 : k = b
      · subst hkb2; exact .inl h1
      · have := h k; rwa [HM.upd_ne _ _ hkb2] at this
theorem vappend_imm {ts tx e sz : Nat} {x : AV} {ys : List AV} {K : ARes → HM → Prop} (hc : apOk P ts tx e sz = true) (hx : srcOf H x = some ys) (hy : ∀ y ∈ ys, y.cells.length = sz) (hl : ys.length ≤ lim) (hk : K (.ret (.list ys)) H) :
    vappendI P H ts tx .nil0 x K := by
  obtain ⟨td, ei, hts, htx, hei, htd, hb⟩ := apOk_some hc
  have ht : (match tdAt P tx with | some (.int _) => False | some .other => False | some _ => True | none => False) := by
    rw [htx]; cases td <;> simp_all [srcTd]
  unfold vappendI
  simp only [hts, hei, hx]
  exact ⟨ht, hb, hy, trivial, hl, hk⟩
theorem wnew_intro {o : AObj} {m : Bool} {d : Option Nat} {rest : List Oper} {tm : Nat → AV} {ds : List ADef} (h : ∀ b, H b = none → wops P G M ops N E rest (putT d (if m then .map b else .addr b 0) tm) (H.upd b o) ds) : wnew P G M ops N E o m d rest tm H ds := h
theorem splice_def (cs : List AV) (off : Nat) (ws : List AV) : splice cs off ws = cs.take off ++ ws ++ cs.drop (off + ws.length) := rfl
theorem kont_ret (d : Option Nat) (rest : List Oper) (tm : Nat → AV) (ds : List ADef) (v : AV) (H' : HM) : kont P G M ops N E d rest tm ds (.ret v) H' = wops P G M ops N E rest (putT d v tm) H' ds := rfl
theorem src_list (ys : List AV) : srcOf H (.list ys) = some ys := rfl
theorem src_nil0 : srcOf H .nil0 = some [] := rfl

/-! ### Arguments seen otherwise -/
theorem CallF.view {f : FuncId} {us bs : List AV} {K : ARes → HM → Prop} (hd : Drop H H1) (hv : ViewL G H H1 us bs) (h : CallF P G f bs H1 K) : CallF P G f us H K := by
  intro w vs hr hst
  have he : Evo H w H1 w := (Evo.refl H w).drop hd
  refine CallsIn.mono (h w vs (hv.rep hst hr) (hst.drop hd)) fun e w' x => ?_
  have up : ∀ {K' : AV → HM → Prop} {v : Value}, Out G H1 w K' v w' → Out G H w K' v w' := fun ⟨a, H', k, r, s, e⟩ => ⟨a, H', k, r, s, he.trans e⟩
  cases e with
  | returned v => exact up x
  | panicked c => obtain ⟨v, e1, e2⟩ := x; exact ⟨v, e1, up e2⟩
  | outgrown => exact x
theorem PureF.view {f : FuncId} {us bs : List AV} {v : AV} (hv : ViewL G H H us bs) (h : PureF P G f bs H v) : PureF P G f us H v :=
  ⟨h.1, fun K hk => CallF.view (Drop.refl H) hv (h.2 K hk)⟩
theorem ViewL.one {a b : AV} (h : View G H H1 a b) : ViewL G H H1 [a] [b] := .cons h .nil
theorem View.nilr : View G H H .nil0 (.list []) := View.nil0 (Drop.refl H)

/-- As VW_loopI; objects may be let go at a round's end. -/
theorem VW_loopD {ι : Type} {c : Code} (Inv : ι → AS → Prop) (μ : ι → Nat) (i : ι) (h0 : Inv i s)
    (round : ∀ i s, Inv i s → VW P G n r c (AX.then (fun s' => ∃ j H1, Drop s'.H H1 ∧ Inv j ⟨s'.tmps, H1, s'.defs⟩ ∧ μ j < μ i) Q) s) : VW P G n r (.loop c) Q s := by
  refine VW_loopI Inv μ i h0 fun i s hi => VW.drop (round i s hi) ?_
  intro x s' hx
  cases x with
  | normal =>
    obtain ⟨j, H1, hd, hj, hlt⟩ := hx
    exact ⟨H1, hd, j, hj, hlt⟩
  | _ => exact ⟨s'.H, Drop.refl _, hx⟩
theorem wgd_split {b want : Bool} {o : Oper} {rest : List Oper} {tm : Nat → AV} {H : HM} {ds : List ADef} (h1 : b = true → wgd P G M ops N E (some true) want o rest tm H ds) (h2 : b = false → wgd P G M ops N E (some false) want o rest tm H ds) :
    wgd P G M ops N E (some b) want o rest tm H ds := by
  cases b
  · exact h2 rfl
  · exact h1 rfl
theorem qgd_split {tl : List Oper} {b want : Bool} {o : Oper} {rest : List Oper} {tm : Nat → AV} {H : HM} {ds : List ADef} (h1 : b = true → qgd P G M ops N E tl (some true) want o rest tm H ds) (h2 : b = false → qgd P G M ops N E tl (some false) want o rest tm H ds) :
    qgd P G M ops N E tl (some b) want o rest tm H ds := by
  cases b
  · exact h2 rfl
  · exact h1 rfl
/-- A region, its end told by R. -/
theorem VW_regC (M : List Nat) (R : AS → Prop) {id : Nat} {y : Code} {tm : Nat → AV} {H : HM} {ds : List ADef}
    (h : ∀ (N : AS → Prop) (E : AV → AS → Prop), (∀ s', R s' → N s') → (∀ v s', Q (.pan v) s' → E v s') → wops P G M ops N E ops.toList tm H ds) (hr : ∀ s', R s' → VW P G n r y Q s') :
    VW P G n r (.seq (.region id ops false) y) Q ⟨tm, H, ds⟩ :=
  VW_reg M fun N E hN hE => h N E (fun s' hs' => hN s' (hr s' hs')) hE
theorem VW_regqC (M : List Nat) (R : AS → Prop) {id : Nat} {y : Code} {tm : Nat → AV} {H : HM} {ds : List ADef} (k : Nat) (hm : P.follows .mixedOrders = true) (hk : headOk ops k = true) (ht : tailOk ops k = true)
    (h : ∀ (N : AS → Prop) (E : AV → AS → Prop), (∀ s', R s' → N s') → (∀ v s', Q (.pan v) s' → E v s') → wqs P G M ops N E (ops.toList.drop k) (ops.toList.take k) tm H ds) (hr : ∀ s', R s' → VW P G n r y Q s') :
    VW P G n r (.seq (.region id ops true) y) Q ⟨tm, H, ds⟩ :=
  VW_regq M k hm hk ht fun N E hN hE => h N E (fun s' hs' => hN s' (hr s' hs')) hE
theorem VW_regEC (M : List Nat) (R : AS → Prop) {id : Nat} {tm : Nat → AV} {H : HM} {ds : List ADef}
    (h : ∀ (N : AS → Prop) (E : AV → AS → Prop), (∀ s', R s' → N s') → (∀ v s', Q (.pan v) s' → E v s') → wops P G M ops N E ops.toList tm H ds) (hr : ∀ s', R s' → Q .normal s') :
    VW P G n r (.region id ops false) Q ⟨tm, H, ds⟩ :=
  VW_regE M fun N E hN hE => h N E (fun s' hs' => hN s' (hr s' hs')) hE
/-- A sequence, the end of its first part told by R. -/
theorem VW_seqC (R : AS → Prop) {x y : Code} (h : VW P G n r x (AX.then R Q) s) (hr : ∀ s', R s' → VW P G n r y Q s') : VW P G n r (.seq x y) Q s :=
  VW_seq (h.mono fun e s' he => by cases e <;> first | exact hr _ he | exact he)
/-- What is known of lengths. -/
theorem rep_len {I : Nat → Prop} {w : World} {xs : List AV} {v : Value} (h : Rep I w (.list xs) v) : xs.length ≤ lim := by
  generalize hq : AV.list xs = q at h
  cases h with
  | nil => injection hq with hq; subst hq; simp
  | list h1 h2 h3 h4 h5 h6 h7 h8 => injection hq with hq; subst hq; exact h7
  | _ => cases hq
theorem rep_strlen {I : Nat → Prop} {w : World} {b : ByteArray} {v : Value} (h : Rep I w (.str b) v) : b.size ≤ lim := by
  cases h with | val _ h => exact h
end

/-! ### Expressions -/
mutual
inductive Ex where
  | mk (k n : Int) (s t : ByteArray) (names : List ByteArray) (l : List Ex) (arms : List Ar)
inductive Ar where
  | mk (op : ByteArray) (names : List ByteArray) (body : Ex)
end
namespace Ex
def k : Ex → Int | .mk k _ _ _ _ _ _ => k
def n : Ex → Int | .mk _ n _ _ _ _ _ => n
def s : Ex → ByteArray | .mk _ _ s _ _ _ _ => s
def t : Ex → ByteArray | .mk _ _ _ t _ _ _ => t
def names : Ex → List ByteArray | .mk _ _ _ _ ns _ _ => ns
def l : Ex → List Ex | .mk _ _ _ _ _ l _ => l
def arms : Ex → List Ar | .mk _ _ _ _ _ _ rs => rs
end Ex
namespace Ar
def op : Ar → ByteArray | .mk o _ _ => o
def names : Ar → List ByteArray | .mk _ ns _ => ns
def body : Ar → Ex | .mk _ _ b => b
end Ar
def strs (l : List ByteArray) : List AV := l.map AV.str
mutual
def Ex.av : Ex → AV
  | .mk k n s t ns l rs => .agg [.int k, .int n, .str s, .str t, .list (strs ns), .list (Ex.avL l), .list (Ar.avL rs)]
def Ex.avL : List Ex → List AV
  | [] => []
  | e :: es => e.av :: Ex.avL es
def Ar.av : Ar → AV
  | .mk op ns b => .agg (.str op :: .list (strs ns) :: (Ex.av b).cells)
def Ar.avL : List Ar → List AV
  | [] => []
  | a :: rs => a.av :: Ar.avL rs
end
theorem Ex.avL_map : ∀ l : List Ex, Ex.avL l = l.map Ex.av
  | [] => rfl
  | e :: es => by simp [Ex.avL, Ex.avL_map es]
theorem Ar.avL_map : ∀ l : List Ar, Ar.avL l = l.map Ar.av
  | [] => rfl
  | e :: es => by simp [Ar.avL, Ar.avL_map es]
def exs (l : List Ex) : List AV := l.map Ex.av
def ars (l : List Ar) : List AV := l.map Ar.av
theorem ex_cells (e : Ex) : e.av.cells = [.int e.k, .int e.n, .str e.s, .str e.t, .list (strs e.names), .list (exs e.l), .list (ars e.arms)] := by
  cases e; simp [Ex.av, AV.cells, Ex.k, Ex.n, Ex.s, Ex.t, Ex.names, Ex.l, Ex.arms, exs, ars, Ex.avL_map, Ar.avL_map]
theorem ar_cells (a : Ar) : a.av.cells = [.str a.op, .list (strs a.names), .int a.body.k, .int a.body.n, .str a.body.s, .str a.body.t, .list (strs a.body.names), .list (exs a.body.l), .list (ars a.body.arms)] := by
  cases a with | mk op ns b => exact congrArg (fun c => AV.str op :: AV.list (strs ns) :: c) (ex_cells b)
theorem ex_fold (k n : Int) (s t : ByteArray) (ns : List ByteArray) (l : List Ex) (rs : List Ar) :
    AV.agg [.int k, .int n, .str s, .str t, .list (strs ns), .list (exs l), .list (ars rs)] = Ex.av (.mk k n s t ns l rs) := by
  simp [Ex.av, exs, ars, Ex.avL_map, Ar.avL_map]
theorem ex_eta (e : Ex) : Ex.mk e.k e.n e.s e.t e.names e.l e.arms = e := by cases e; rfl
theorem ar_fold (op : ByteArray) (ns : List ByteArray) (k n : Int) (s t : ByteArray) (ms : List ByteArray) (l : List Ex) (rs : List Ar) :
    AV.agg [.str op, .list (strs ns), .int k, .int n, .str s, .str t, .list (strs ms), .list (exs l), .list (ars rs)] = Ar.av (.mk op ns (.mk k n s t ms l rs)) := by
  simp [Ar.av, Ex.av, exs, ars, Ex.avL_map, Ar.avL_map, AV.cells]
theorem ar_eta (a : Ar) : Ar.mk a.op a.names a.body = a := by cases a; rfl
theorem ex_one (e : Ex) : e.av.one = true := by cases e; rfl
theorem ar_one (a : Ar) : a.av.one = true := by cases a; rfl
theorem ex_size (e : Ex) : e.av.cells.length = 7 := by rw [ex_cells]; rfl
theorem ar_size (a : Ar) : a.av.cells.length = 9 := by rw [ar_cells]; rfl

theorem ex_k (k n : Int) (s t : ByteArray) (ns : List ByteArray) (l : List Ex) (rs : List Ar) : (Ex.mk k n s t ns l rs).k = k := rfl
theorem ex_n (k n : Int) (s t : ByteArray) (ns : List ByteArray) (l : List Ex) (rs : List Ar) : (Ex.mk k n s t ns l rs).n = n := rfl
theorem ex_s (k n : Int) (s t : ByteArray) (ns : List ByteArray) (l : List Ex) (rs : List Ar) : (Ex.mk k n s t ns l rs).s = s := rfl
theorem ex_t (k n : Int) (s t : ByteArray) (ns : List ByteArray) (l : List Ex) (rs : List Ar) : (Ex.mk k n s t ns l rs).t = t := rfl
theorem ex_names (k n : Int) (s t : ByteArray) (ns : List ByteArray) (l : List Ex) (rs : List Ar) : (Ex.mk k n s t ns l rs).names = ns := rfl
theorem ex_l (k n : Int) (s t : ByteArray) (ns : List ByteArray) (l : List Ex) (rs : List Ar) : (Ex.mk k n s t ns l rs).l = l := rfl
theorem ex_arms (k n : Int) (s t : ByteArray) (ns : List ByteArray) (l : List Ex) (rs : List Ar) : (Ex.mk k n s t ns l rs).arms = rs := rfl
theorem ar_op (o : ByteArray) (ns : List ByteArray) (b : Ex) : (Ar.mk o ns b).op = o := rfl
theorem ar_names (o : ByteArray) (ns : List ByteArray) (b : Ex) : (Ar.mk o ns b).names = ns := rfl
theorem ar_body (o : ByteArray) (ns : List ByteArray) (b : Ex) : (Ar.mk o ns b).body = b := rfl
def ES := And.intro @HM.upd_upd <| And.intro @splice_def <| And.intro @ex_cells <| And.intro @ex_fold <| And.intro @ex_eta <| And.intro @ar_cells <| And.intro @ar_fold <| And.intro @ar_eta <| And.intro @ex_one <| And.intro @ar_one <| And.intro @ex_k <| And.intro @ex_n <| And.intro @ex_s <| And.intro @ex_t <| And.intro @ex_names <| And.intro @ex_l <| And.intro @ex_arms <| And.intro @ar_op <| And.intro @ar_names @ar_body

theorem strs_get (l : List ByteArray) (i : Nat) : (strs l)[i]? = (l[i]?).map AV.str := by simp [strs]
theorem strs_len (l : List ByteArray) : (strs l).length = l.length := by simp [strs]
theorem exs_len (l : List Ex) : (exs l).length = l.length := by simp [exs]
theorem ars_len (l : List Ar) : (ars l).length = l.length := by simp [ars]
theorem strs_at {l : List ByteArray} {i : Nat} (h : i < l.length) : (strs l)[i]? = some (.str l[i]) := by simp [strs, h]
theorem exs_at {l : List Ex} {i : Nat} (h : i < l.length) : (exs l)[i]? = some l[i].av := by simp [exs, h]
theorem ars_at {l : List Ar} {i : Nat} (h : i < l.length) : (ars l)[i]? = some l[i].av := by simp [ars, h]
theorem strs_sz (l : List ByteArray) : ∀ x ∈ strs l, x.cells.length = 1 := by
  intro x hx; obtain ⟨b, _, rfl⟩ := List.mem_map.1 hx; rfl
theorem exs_sz (l : List Ex) : ∀ x ∈ exs l, x.cells.length = 7 := by
  intro x hx; obtain ⟨b, _, rfl⟩ := List.mem_map.1 hx; exact ex_size b
theorem ars_sz (l : List Ar) : ∀ x ∈ ars l, x.cells.length = 9 := by
  intro x hx; obtain ⟨b, _, rfl⟩ := List.mem_map.1 hx; exact ar_size b
theorem all_one {x : AV} {p : AV → Prop} (h : p x) : ∀ y ∈ [x], p y := by
  intro y hy; rw [List.mem_singleton.1 hy]; exact h
theorem all_two {x x' : AV} {p : AV → Prop} (h : p x) (h' : p x') : ∀ y ∈ [x, x'], p y := by
  intro y hy
  rcases List.mem_cons.1 hy with e | hy
  · rw [e]; exact h
  · rw [List.mem_singleton.1 hy]; exact h'
theorem all_strs (l : List ByteArray) : ∀ x ∈ strs l, x.cells.length = 1 ∧ x.one = true := by
  intro x hx; obtain ⟨b, _, rfl⟩ := List.mem_map.1 hx; exact ⟨rfl, rfl⟩
theorem strs_take (l : List ByteArray) (n : Nat) : (strs l).take n = strs (l.take n) := by simp [strs]
theorem strs_drop (l : List ByteArray) (n : Nat) : (strs l).drop n = strs (l.drop n) := by simp [strs]
theorem exs_take (l : List Ex) (n : Nat) : (exs l).take n = exs (l.take n) := by simp [exs]
theorem ars_take (l : List Ar) (n : Nat) : (ars l).take n = ars (l.take n) := by simp [ars]
theorem strs_szc (l : List ByteArray) : (∀ x ∈ strs l, x.cells.length = 1) = True := eq_true (strs_sz l)
theorem nat0 (k : Nat) : (0 : Int) ≤ (k : Int) := Int.natCast_nonneg k
theorem wrapN {k : Nat} (h : k < 9223372036854775807) : IntKind.i64.wrap ((k : Int) + 1) = ((k + 1 : Nat) : Int) := by
  rw [wrap64] <;> omega

/-- The parts of a node. -/
def Ex.parts (e : Ex) : List Ex := e.l ++ e.arms.map Ar.body
mutual
/-- A function by its values at the parts. -/
def Ex.para {α : Type} (f : Ex → List α → α) : Ex → α
  | .mk k n s t ns l rs => f (.mk k n s t ns l rs) (Ex.paraL f l ++ Ar.paraL f rs)
def Ex.paraL {α : Type} (f : Ex → List α → α) : List Ex → List α
  | [] => []
  | e :: es => Ex.para f e :: Ex.paraL f es
def Ar.para {α : Type} (f : Ex → List α → α) : Ar → α
  | .mk _ _ b => Ex.para f b
def Ar.paraL {α : Type} (f : Ex → List α → α) : List Ar → List α
  | [] => []
  | a :: rs => Ar.para f a :: Ar.paraL f rs
end
theorem Ex.paraL_map {α : Type} (f : Ex → List α → α) : ∀ l : List Ex, Ex.paraL f l = l.map (Ex.para f)
  | [] => rfl
  | e :: es => by simp [Ex.paraL, Ex.paraL_map f es]
theorem Ar.paraL_map {α : Type} (f : Ex → List α → α) : ∀ l : List Ar, Ar.paraL f l = l.map fun a => Ex.para f a.body
  | [] => rfl
  | .mk o ns b :: es => by simp [Ar.paraL, Ar.para, Ar.body, Ar.paraL_map f es]
theorem Ex.para_eq {α : Type} (f : Ex → List α → α) (e : Ex) : Ex.para f e = f e (e.parts.map (Ex.para f)) := by
  cases e
  simp [Ex.para, Ex.paraL_map, Ar.paraL_map, Ex.parts, Ex.l, Ex.arms, Function.comp_def]
/-- The number of nodes. -/
def Ex.nodes : Ex → Nat := Ex.para fun _ rs => 1 + rs.sum
theorem Ex.nodes_eq (e : Ex) : e.nodes = 1 + (e.parts.map Ex.nodes).sum := Ex.para_eq _ e
theorem le_sum {x : Nat} : ∀ {l : List Nat}, x ∈ l → x ≤ l.sum
  | a :: l, h => by
    rcases List.mem_cons.1 h with e | e
    · subst e; simp
    · have := le_sum e; simp; omega
theorem Ex.part_lt {e x : Ex} (h : x ∈ e.parts) : x.nodes < e.nodes := by
  rw [Ex.nodes_eq e]
  have := le_sum (List.mem_map_of_mem (f := Ex.nodes) h)
  omega
theorem Ex.ind {motive : Ex → Prop} (step : ∀ e, (∀ x ∈ e.parts, motive x) → motive e) (e : Ex) : motive e := by
  generalize hn : e.nodes = n
  induction n using Nat.strongRecOn generalizing e with
  | _ n ih => exact step e fun x hx => ih x.nodes (hn ▸ Ex.part_lt hx) x rfl

/-! ### Bounds -/
def bnd : Nat := 16777216
def fit1 (e : Ex) : Prop := e.s.size ≤ bnd ∧ e.t.size ≤ bnd ∧ e.names.length ≤ bnd ∧ e.l.length ≤ bnd ∧ e.arms.length ≤ bnd ∧ (∀ x ∈ e.names, x.size ≤ bnd) ∧ ∀ a ∈ e.arms, a.op.size ≤ bnd ∧ a.names.length ≤ bnd ∧ ∀ x ∈ a.names, x.size ≤ bnd
/-- All lists and strings of an expression are short. -/
def Fit : Ex → Prop := Ex.para fun e rs => fit1 e ∧ ∀ r ∈ rs, r
theorem Fit.eq (e : Ex) : Fit e ↔ fit1 e ∧ ∀ x ∈ e.parts, Fit x := by
  unfold Fit
  rw [Ex.para_eq]
  refine and_congr_right fun _ => ⟨fun h x hx => h _ (List.mem_map_of_mem hx), fun h r hr => ?_⟩
  obtain ⟨x, hx, rfl⟩ := List.mem_map.1 hr
  exact h x hx
theorem Fit.one {e : Ex} (h : Fit e) : fit1 e := ((Fit.eq e).1 h).1
theorem Fit.part {e x : Ex} (h : Fit e) (hx : x ∈ e.parts) : Fit x := ((Fit.eq e).1 h).2 x hx
theorem mem_l {e : Ex} {i : Nat} (h : i < e.l.length) : e.l[i] ∈ e.parts := by simp [Ex.parts]
theorem mem_arm {e : Ex} {i : Nat} (h : i < e.arms.length) : e.arms[i].body ∈ e.parts := by
  simp only [Ex.parts, List.mem_append, List.mem_map]
  exact .inr ⟨_, List.getElem_mem h, rfl⟩
theorem parts_len (e : Ex) : e.parts.length = e.l.length + e.arms.length := by simp [Ex.parts]
theorem bnd_lt : bnd < 1000000000 := by decide
theorem bnd_lim {n : Nat} (h : n ≤ bnd) : n ≤ lim := Nat.le_trans h (by decide)
theorem bnd2_lim {n m : Nat} (h : n ≤ bnd) (h' : m ≤ bnd) : n + m ≤ lim := Nat.le_trans (Nat.add_le_add h h') (by decide)
end Go.V
