/- Abstract values, how they are represented in a world, and what keeps them represented. No condition. -/
import Derived.RangeFuncRecord
import Derived.OrdersIn
import Derived.Laws.Sem
import Derived.Laws.World
import Derived.Laws.Cells
import Derived.Below
set_option linter.unusedVariables false
set_option linter.unusedSimpArgs false
namespace Go.V
open Go

inductive AV where
  | val (v : Value)
  | agg (cs : List AV)
  | tup (vs : List AV)
  | list (xs : List AV)
  | ref (cs : List AV)
  | addr (b off : Nat)
  | elem (b i sz off : Nat)
  | nil0
  | mlist (b n cap : Nat)
  | map (b : Nat)
  | imap (es : List (AV × AV))
  | func (fn : Fn) (first cap : List AV)
  | iface (t : TypeId) (v : AV)
  deriving Inhabited

namespace AV
abbrev int (n : Int) : AV := .val (.int .i64 n)
abbrev str (s : ByteArray) : AV := .val (.string s)
abbrev bool (b : Bool) : AV := .val (.bool b)
abbrev unit : AV := .val (.tuple #[])
abbrev fn (f : FuncId) : AV := .func (.func f) [] []
def cells : AV → List AV
  | .agg cs => cs
  | v => [v]
end AV
def flat (xs : List AV) : List AV := xs.flatMap AV.cells

/-- Bound on lengths of lists and strings that are known by value. -/
def lim : Nat := 68719476736
def okV : Value → Prop
  | .string s => s.size ≤ lim
  | .agg _ => False
  | _ => True

/-- The stamps of a map's entries. -/
def Stamps (ents : Array MapEntry) (clock : Nat) : Prop := (∀ e ∈ ents.toList, e.born < clock) ∧ (ents.toList.map (·.born)).Nodup

def Reads (w : World) (ad : Addr) (vs : List Value) : Prop := ∀ i v, vs[i]? = some v → w.cell? (ad.add i) = some v

mutual
inductive Rep (I : Nat → Prop) (w : World) : AV → Value → Prop
  | val (v : Value) (h : okV v) : Rep I w (.val v) v
  | agg {cs vs} (h1 : ∀ v ∈ vs, v.oneCell' = true) (h : RepL I w cs vs) : Rep I w (.agg cs) (.agg vs.toArray)
  | tup {cs vs} (h : RepL I w cs vs) : Rep I w (.tup cs) (.tuple vs.toArray)
  | nil (a : Option Addr) (cap : Nat) : Rep I w (.list []) (.slice a 0 cap)
  | list {xs vs ad cap sz} (hI : vs ≠ [] → I ad.block) (hs : ad.spot = none) (hz : ∀ x ∈ xs, x.cells.length = sz) (hr : Reads w ad vs)
      (h1 : ∀ v ∈ vs, v.oneCell' = true) (hc : xs.length ≤ cap) (hl : xs.length ≤ lim) (h : RepL I w (flat xs) vs) : Rep I w (.list xs) (.slice (some ad) xs.length cap)
  | ref {cs vs ad} (hI : vs ≠ [] → I ad.block) (hs : ad.spot = none) (hr : Reads w ad vs) (h1 : ∀ v ∈ vs, v.oneCell' = true) (h : RepL I w cs vs) : Rep I w (.ref cs) (.pointer (some ad))
  | addr (b off : Nat) : Rep I w (.addr b off) (.pointer (some ⟨b, off, none⟩))
  | elem (b i sz off : Nat) : Rep I w (.elem b i sz off) (.pointer (some ⟨b, i * sz + off, none⟩))
  | nil0 (a : Option Addr) : Rep I w .nil0 (.slice a 0 0)
  | mlist (b n cap : Nat) : Rep I w (.mlist b n cap) (.slice (some ⟨b, 0, none⟩) n cap)
  | map (b : Nat) : Rep I w (.map b) (.map (some b))
  | imap {es r ents clock} (hI : I r) (hr : w.heap[r]? = some (.map ents clock)) (hst : Stamps ents clock) (hk : RepL I w (es.map (·.1)) (ents.toList.map (·.key)))
      (hv : RepL I w (es.map (·.2)) (ents.toList.map (·.val))) : Rep I w (.imap es) (.map (some r))
  | func {fn fs cs vs us} (hf : RepL I w fs vs) (hc : RepL I w cs us) : Rep I w (.func fn fs cs) (.func fn vs.toArray us.toArray)
  | iface {t a v} (h : Rep I w a v) : Rep I w (.iface t a) (.iface t v)
inductive RepL (I : Nat → Prop) (w : World) : List AV → List Value → Prop
  | nil : RepL I w [] []
  | cons {a v as vs} (h : Rep I w a v) (hs : RepL I w as vs) : RepL I w (a :: as) (v :: vs)
end

section
variable {I I' : Nat → Prop} {w w' : World}

theorem block_cell {b off : Nat} {sp : Option Nat} (h : w'.heap[b]? = w.heap[b]?) : w'.cell? ⟨b, off, sp⟩ = w.cell? ⟨b, off, sp⟩ := by
  simp only [World.cell?, h]

theorem Addr.add_block (a : Addr) (n : Nat) : (a.add n).block = a.block := by unfold Addr.add; split <;> rfl

theorem Reads.keep {ad : Addr} {vs : List Value} (h : Reads w ad vs) (hb : w'.heap[ad.block]? = w.heap[ad.block]?) : Reads w' ad vs := by
  intro i v hi
  rw [← h i v hi]
  unfold World.cell?
  rw [Addr.add_block, hb]

/-- Does the block hold cells, or a map? -/
def isData (w : World) (b : Nat) : Bool := match w.heap[b]? with
  | some (.cells ..) | some (.map ..) => true
  | _ => false
theorem data_of_cell {a : Addr} {v : Value} (h : w.cell? a = some v) : isData w a.block = true := by
  unfold World.cell? at h
  unfold isData
  split at h
  · rename_i e; rw [e]
  · cases h
theorem data_of_reads {ad : Addr} {vs : List Value} (h : Reads w ad vs) (hn : vs ≠ []) : isData w ad.block = true := by
  cases vs with
  | nil => exact absurd rfl hn
  | cons v vs => have := data_of_cell (h 0 v rfl); rwa [Addr.add_block] at this

/-- What is represented stays so where what is read stays. -/
theorem Rep.keep2 {a : AV} {v : Value} (h : Rep I w a v) (hI : ∀ b, I b → isData w b = true → I' b) (hc : ∀ a v, I a.block → w.cell? a = some v → w'.cell? a = some v)
    (hm : ∀ b es c, I b → w.heap[b]? = some (.map es c) → w'.heap[b]? = some (.map es c)) : Rep I' w' a v := by
  have hr : ∀ {ad : Addr} {vs : List Value}, (vs ≠ [] → I ad.block) → Reads w ad vs → Reads w' ad vs := fun hb h i v hi => hc _ _ (by rw [Addr.add_block]; exact hb (by rintro rfl; simp at hi)) (h i v hi)
  refine Rep.rec (motive_1 := fun a v _ => Rep I' w' a v) (motive_2 := fun as vs _ => RepL I' w' as vs)
    ?_ ?_ ?_ ?_ ?_ ?_ ?_ ?_ ?_ ?_ ?_ ?_ ?_ ?_ ?_ ?_ h
  · intro v h; exact .val v h
  · intro cs vs h1 _ h; exact .agg h1 h
  · intro cs vs _ h; exact .tup h
  · intro a cap; exact .nil a cap
  · intro xs vs ad cap sz h1 h2 h3 h4 h0 h5 h6 _ h7; exact .list (fun hn => hI _ (h1 hn) (data_of_reads h4 hn)) h2 h3 (hr h1 h4) h0 h5 h6 h7
  · intro cs vs ad h1 h2 h3 h0 _ h4; exact .ref (fun hn => hI _ (h1 hn) (data_of_reads h3 hn)) h2 (hr h1 h3) h0 h4
  · intro b off; exact .addr b off
  · intro b i sz off; exact .elem b i sz off
  · intro a; exact .nil0 a
  · intro b n cap; exact .mlist b n cap
  · intro b; exact .map b
  · intro es r ents clock h1 h2 h0 _ _ h3 h4; exact .imap (hI _ h1 (by simp [isData, h2])) (hm _ _ _ h1 h2) h0 h3 h4
  · intro fn fs cs vs us _ _ h1 h2; exact .func h1 h2
  · intro t a v _ h; exact .iface h
  · exact .nil
  · intro a v as vs _ _ h1 h2; exact .cons h1 h2
/-- What is represented stays so where the immutable blocks stay and may grow in number. -/
theorem Rep.keep {a : AV} {v : Value} (h : Rep I w a v) (hI : ∀ b, I b → I' b) (hb : ∀ b, I b → w'.heap[b]? = w.heap[b]?) : Rep I' w' a v :=
  h.keep2 (fun b hb _ => hI b hb) (fun a v ha hc => by unfold World.cell? at *; rw [hb _ ha]; exact hc) fun b es c ha hm => (hb _ ha).trans hm
theorem RepL.keep2 : ∀ {as : List AV} {vs : List Value}, RepL I w as vs → (∀ b, I b → isData w b = true → I' b) → (∀ a v, I a.block → w.cell? a = some v → w'.cell? a = some v) →
    (∀ b es c, I b → w.heap[b]? = some (.map es c) → w'.heap[b]? = some (.map es c)) → RepL I' w' as vs
  | _, _, .nil, _, _, _ => .nil
  | _, _, .cons h hs, hI, hc, hm => .cons (h.keep2 hI hc hm) (hs.keep2 hI hc hm)

theorem RepL.keep : ∀ {as : List AV} {vs : List Value}, RepL I w as vs → (∀ b, I b → I' b) → (∀ b, I b → w'.heap[b]? = w.heap[b]?) → RepL I' w' as vs
  | _, _, .nil, _, _ => .nil
  | _, _, .cons h hs, hI, hb => .cons (h.keep hI hb) (hs.keep hI hb)

theorem RepL.length : ∀ {as : List AV} {vs : List Value}, RepL I w as vs → as.length = vs.length
  | _, _, .nil => rfl
  | _, _, .cons _ hs => by simp [hs.length]

theorem RepL.get : ∀ {as : List AV} {vs : List Value}, RepL I w as vs → ∀ (i : Nat) (a : AV), as[i]? = some a → ∃ v, vs[i]? = some v ∧ Rep I w a v
  | _, _, .nil, i, a, h => by simp at h
  | _, _, .cons h hs, 0, a, e => by simp at e; subst e; exact ⟨_, rfl, h⟩
  | _, _, .cons h hs, i + 1, a, e => by simp at e; obtain ⟨v, h1, h2⟩ := hs.get i a e; exact ⟨v, by simpa using h1, h2⟩

theorem RepL.append : ∀ {as : List AV} {vs : List Value} {bs : List AV} {us : List Value}, RepL I w as vs → RepL I w bs us → RepL I w (as ++ bs) (vs ++ us)
  | _, _, _, _, .nil, h => h
  | _, _, _, _, .cons h hs, h2 => .cons h (hs.append h2)

theorem RepL.drop : ∀ (n : Nat) {as : List AV} {vs : List Value}, RepL I w as vs → RepL I w (as.drop n) (vs.drop n)
  | 0, _, _, h => by simpa using h
  | n + 1, _, _, .nil => by simp; exact .nil
  | n + 1, _, _, .cons _ hs => by simpa using hs.drop n

theorem RepL.take : ∀ (n : Nat) {as : List AV} {vs : List Value}, RepL I w as vs → RepL I w (as.take n) (vs.take n)
  | 0, _, _, h => by simp; exact .nil
  | n + 1, _, _, .nil => by simp; exact .nil
  | n + 1, _, _, .cons h hs => by simp; exact .cons h (hs.take n)

theorem RepL.set : ∀ (n : Nat) {as : List AV} {vs : List Value} {a : AV} {v : Value}, RepL I w as vs → Rep I w a v → RepL I w (as.set n a) (vs.set n v)
  | 0, _, _, _, _, .nil, _ => by simp; exact .nil
  | 0, _, _, _, _, .cons _ hs, h => by simp; exact .cons h hs
  | n + 1, _, _, _, _, .nil, _ => by simp; exact .nil
  | n + 1, _, _, _, _, .cons h' hs, h => by simp; exact .cons h' (hs.set n h)

theorem RepL.of_append {as bs : List AV} {vs : List Value} (h : RepL I w (as ++ bs) vs) : RepL I w as (vs.take as.length) ∧ RepL I w bs (vs.drop as.length) := by
  have h1 := h.take as.length
  have h2 := h.drop as.length
  rw [List.take_left] at h1
  rw [List.drop_left] at h2
  exact ⟨h1, h2⟩

theorem RepL.map_ {α : Type} (f : α → AV) (g : α → Value) : ∀ (l : List α), (∀ x ∈ l, Rep I w (f x) (g x)) → RepL I w (l.map f) (l.map g)
  | [], _ => .nil
  | x :: l, h => .cons (h x (by simp)) (RepL.map_ f g l fun y hy => h y (by simp [hy]))

theorem flat_nil : flat [] = [] := rfl
theorem flat_cons (x : AV) (xs : List AV) : flat (x :: xs) = x.cells ++ flat xs := by simp [flat]
theorem flat_append (xs ys : List AV) : flat (xs ++ ys) = flat xs ++ flat ys := by simp [flat]
theorem flat_length {xs : List AV} {sz : Nat} (h : ∀ x ∈ xs, x.cells.length = sz) : (flat xs).length = xs.length * sz := by
  induction xs with
  | nil => simp [flat]
  | cons x xs ih =>
    rw [flat_cons, List.length_append, h x (by simp), ih fun y hy => h y (by simp [hy]), List.length_cons, Nat.succ_mul]
    omega
theorem flat_drop {xs : List AV} {sz : Nat} (h : ∀ x ∈ xs, x.cells.length = sz) (i : Nat) : (flat xs).drop (i * sz) = flat (xs.drop i) := by
  induction i generalizing xs with
  | zero => simp
  | succ i ih =>
    cases xs with
    | nil => simp [flat]
    | cons x xs =>
      rw [flat_cons, List.drop_succ_cons, ← ih fun y hy => h y (by simp [hy])]
      have hx := h x (by simp)
      rw [show (i + 1) * sz = x.cells.length + i * sz from by rw [hx, Nat.succ_mul]; omega, ← List.drop_drop, List.drop_left]

/-- The cells of a value's representation. -/
theorem Rep.cells {a : AV} {v : Value} (h : Rep I w a v) : RepL I w a.cells v.cells.toList := by
  cases h with
  | agg h1 h => simpa [AV.cells, Value.cells] using h
  | val v h =>
    have hv : v.cells = #[v] := by cases v <;> first | rfl | exact h.elim
    rw [hv]; exact .cons (.val v h) .nil
  | tup h => exact .cons (.tup h) .nil
  | nil a cap => exact .cons (.nil a cap) .nil
  | list h1 h2 h3 h4 h5 h6 h7 h8 => exact .cons (.list h1 h2 h3 h4 h5 h6 h7 h8) .nil
  | ref h1 h2 h3 h4 h5 => exact .cons (.ref h1 h2 h3 h4 h5) .nil
  | addr b off => exact .cons (.addr b off) .nil
  | elem b i sz off => exact .cons (.elem b i sz off) .nil
  | nil0 a => exact .cons (.nil0 a) .nil
  | mlist b n cap => exact .cons (.mlist b n cap) .nil
  | map b => exact .cons (.map b) .nil
  | imap h1 h2 h3 h4 h5 => exact .cons (.imap h1 h2 h3 h4 h5) .nil
  | func h1 h2 => exact .cons (.func h1 h2) .nil
  | iface h => exact .cons (.iface h) .nil

/-- May a value of this form lie in cells? -/
def AV.one : AV → Bool
  | .tup _ => false
  | .val v => v.oneCell'
  | _ => true

theorem Rep.one {a : AV} {v : Value} (h : Rep I w a v) (ha : a.one = true) : ∀ u ∈ v.cells.toList, u.oneCell' = true := by
  cases h with
  | agg h1 h => simpa [Value.cells] using h1
  | val v h =>
    have hv : v.cells = #[v] := by cases v <;> first | rfl | exact h.elim
    rw [hv]; simpa [AV.one] using ha
  | tup h => simp [AV.one] at ha
  | _ => simp [Value.cells, Value.oneCell']

theorem Rep.val_eq {v u : Value} (h : Rep I w (.val v) u) : u = v := by cases h; rfl
theorem Rep.size {a : AV} {v : Value} (h : Rep I w a v) : a.cells.length = v.cells.size := by
  rw [h.cells.length]; simp
end

/-! ### Objects of one's own -/
inductive AObj where
  | cells (t : TypeId) (cs : List AV)
  | row (t : TypeId) (sz cap : Nat) (xs : List AV)
  | map (es : List (AV × AV))
  | loop (l : Loop) (tm : Nat → AV)
  | siter (s : ByteArray) (pos : Nat)
  | miter (es : List (AV × AV)) (seen : List Nat)
abbrev HM := Nat → Option AObj
def HM.upd (H : HM) (b : Nat) (o : AObj) : HM := fun k => if k = b then some o else H k
def HM.del (H : HM) (b : Nat) : HM := fun k => if k = b then none else H k
theorem HM.upd_same (H : HM) (b : Nat) (o : AObj) : H.upd b o b = some o := by simp [HM.upd]
theorem HM.upd_ne (H : HM) {b k : Nat} (o : AObj) (h : k ≠ b) : H.upd b o k = H k := by simp [HM.upd, h]
theorem HM.upd_upd (H : HM) (b : Nat) (o o' : AObj) : (H.upd b o).upd b o' = H.upd b o' := by
  funext k; simp only [HM.upd]; split <;> rfl
theorem HM.upd_comm (H : HM) {b c : Nat} (o o' : AObj) (h : b ≠ c) : (H.upd b o).upd c o' = (H.upd c o').upd b o := by
  funext k; simp only [HM.upd]; split <;> split <;> simp_all

/-- The blocks that nobody writes. -/
def Imm (H : HM) (w : World) (b : Nat) : Prop := b < w.heap.size ∧ H b = none

def RepO (I : Nat → Prop) (w : World) (b : Nat) : AObj → Prop
  | .cells t cs => ∃ vs, w.heap[b]? = some (.cells vs.toArray t (0, 0)) ∧ RepL I w cs vs ∧ ∀ v ∈ vs, v.oneCell' = true
  | .row t sz cap xs => ∃ vs rest, w.heap[b]? = some (.cells (vs ++ rest).toArray t (0, 0)) ∧ RepL I w (flat xs) vs ∧ (∀ x ∈ xs, x.cells.length = sz) ∧ (∀ v ∈ vs, v.oneCell' = true) ∧
      rest.length + xs.length * sz = cap * sz ∧ xs.length ≤ cap
  | .map es => ∃ ents clock, w.heap[b]? = some (.map ents clock) ∧ RepL I w (es.map (·.1)) (ents.toList.map (·.key)) ∧ RepL I w (es.map (·.2)) (ents.toList.map (·.val)) ∧ Stamps ents clock
  | .siter s pos => w.heap[b]? = some (.stringIter s pos)
  | .miter es seen => ∃ m since sb last, w.heap[b]? = some (.mapIter m since sb last) ∧ ((m = none ∧ es = []) ∨ ∃ r ents, m = some r ∧ I r ∧ w.heap[r]? = some (.map ents since) ∧ last = since ∧ Stamps ents since ∧
      RepL I w (es.map (·.1)) (ents.toList.map (·.key)) ∧ RepL I w (es.map (·.2)) (ents.toList.map (·.val)) ∧ sb.toList = seen.filterMap (fun i => (ents[i]?).map (·.born)) ∧ ∀ i ∈ seen, i < ents.size)
  | .loop l tm => w.heap[b]? = some (.loop l) ∧ ∀ t, Rep I w (tm t) (l.tmps.getD t undef)

theorem RepO.lt {I : Nat → Prop} {w : World} {b : Nat} {o : AObj} (h : RepO I w b o) : b < w.heap.size := by
  cases o <;> simp only [RepO] at h
  · obtain ⟨_, h, _⟩ := h; exact (Array.getElem?_eq_some_iff.1 h).1
  · obtain ⟨_, _, h, _⟩ := h; exact (Array.getElem?_eq_some_iff.1 h).1
  · obtain ⟨_, _, h, _⟩ := h; exact (Array.getElem?_eq_some_iff.1 h).1
  · exact (Array.getElem?_eq_some_iff.1 h.1).1
  · exact (Array.getElem?_eq_some_iff.1 h).1
  · obtain ⟨_, _, _, _, h, _⟩ := h; exact (Array.getElem?_eq_some_iff.1 h).1

theorem RepO.keep {I I' : Nat → Prop} {w w' : World} {b : Nat} {o : AObj} (h : RepO I w b o) (hI : ∀ b, I b → I' b) (hb : ∀ b, I b → w'.heap[b]? = w.heap[b]?)
    (hs : w'.heap[b]? = w.heap[b]?) : RepO I' w' b o := by
  cases o <;> simp only [RepO] at h ⊢ <;> rw [hs]
  · obtain ⟨vs, h1, h2, h3⟩ := h; exact ⟨vs, h1, h2.keep hI hb, h3⟩
  · obtain ⟨vs, rest, h1, h2, h3⟩ := h; exact ⟨vs, rest, h1, h2.keep hI hb, h3⟩
  · obtain ⟨es, c, h1, h2, h3, h4⟩ := h; exact ⟨es, c, h1, h2.keep hI hb, h3.keep hI hb, h4⟩
  · exact ⟨h.1, fun t => (h.2 t).keep hI hb⟩
  · exact h
  · obtain ⟨m, si, sb, la, h1, h2⟩ := h
    refine ⟨m, si, sb, la, h1, h2.imp id ?_⟩
    rintro ⟨r, ents, e1, e2, e3, e4, e5, e6, e7, e8⟩
    exact ⟨r, ents, e1, hI _ e2, (hb _ e2).trans e3, e4, e5, e6.keep hI hb, e7.keep hI hb, e8⟩

/-- What becomes of a world: immutable blocks stay. -/
structure Evo (H : HM) (w : World) (H' : HM) (w' : World) : Prop where
  os : w'.os = w.os
  tape : w'.tape = w.tape
  output : w'.output = w.output
  size : w.heap.size ≤ w'.heap.size
  block : ∀ b, Imm H w b → H' b = none ∧ w'.heap[b]? = w.heap[b]?

theorem Evo.refl (H : HM) (w : World) : Evo H w H w := ⟨rfl, rfl, rfl, Nat.le_refl _, fun b h => ⟨h.2, rfl⟩⟩
theorem Evo.imm {H H' : HM} {w w' : World} (h : Evo H w H' w') : ∀ b, Imm H w b → Imm H' w' b := fun b hb => ⟨Nat.lt_of_lt_of_le hb.1 h.size, (h.block b hb).1⟩
theorem Evo.same {H H' : HM} {w w' : World} (h : Evo H w H' w') : ∀ b, Imm H w b → w'.heap[b]? = w.heap[b]? := fun b hb => (h.block b hb).2
theorem Evo.trans {H H1 H2 : HM} {w w1 w2 : World} (h : Evo H w H1 w1) (h' : Evo H1 w1 H2 w2) : Evo H w H2 w2 :=
  ⟨h'.os.trans h.os, h'.tape.trans h.tape, h'.output.trans h.output, Nat.le_trans h.size h'.size,
   fun b hb => ⟨(h'.block b (h.imm b hb)).1, ((h'.block b (h.imm b hb)).2).trans (h.block b hb).2⟩⟩
theorem Evo.rep {H H' : HM} {w w' : World} (h : Evo H w H' w') {a : AV} {v : Value} (hr : Rep (Imm H w) w a v) : Rep (Imm H' w') w' a v := hr.keep h.imm h.same
theorem Evo.repL {H H' : HM} {w w' : World} (h : Evo H w H' w') {a : List AV} {v : List Value} (hr : RepL (Imm H w) w a v) : RepL (Imm H' w') w' a v := hr.keep h.imm h.same
/-- Objects may be let go. -/
theorem Evo.drop {H H' H0 : HM} {w w' : World} (h : Evo H w H' w') (h0 : ∀ b, H0 b = none ∨ H0 b = H' b) : Evo H w H0 w' :=
  ⟨h.os, h.tape, h.output, h.size, fun b hb => ⟨by rcases h0 b with e | e <;> simp [e, (h.block b hb).1], (h.block b hb).2⟩⟩

abbrev GT := Nat → Option (List AV)
/-- A package-level variable, as it was laid. -/
def GRep (I : Nat → Prop) (w : World) (g : Nat) (cs : List AV) : Prop := ∃ vs t fr, w.heap[g]? = some (.cells vs.toArray t fr) ∧ I g ∧ RepL I w cs vs ∧ ∀ v ∈ vs, v.oneCell' = true
theorem GRep.map {I I' : Nat → Prop} {w w' : World} {g : Nat} {cs : List AV} (h : GRep I w g cs) (hI : I g → isData w g = true → I' g) (hg : I g → isData w g = true → w'.heap[g]? = w.heap[g]?)
    (hr : ∀ {as : List AV} {vs : List Value}, RepL I w as vs → RepL I' w' as vs) : GRep I' w' g cs := by
  obtain ⟨vs, t, fr, h1, h2, h3, h4⟩ := h
  have hd : isData w g = true := by simp [isData, h1]
  exact ⟨vs, t, fr, (hg h2 hd).trans h1, hI h2 hd, hr h3, h4⟩
theorem GRep.rep {I : Nat → Prop} {w : World} {g : Nat} {cs : List AV} (h : GRep I w g cs) : Rep I w (.ref cs) (.pointer (some ⟨g, 0, none⟩)) := by
  obtain ⟨vs, t, fr, h1, h2, h3, h4⟩ := h
  refine .ref (fun _ => h2) rfl (fun i v hi => ?_) h4 h3
  have : (⟨g, 0, none⟩ : Addr).add i = ⟨g, 0 + i, none⟩ := by unfold Addr.add; split <;> simp_all
  rw [this]
  simp only [World.cell?, h1]
  simpa using hi
/-- The objects and the package-level variables are as told. -/
structure St (G : GT) (H : HM) (w : World) : Prop where
  obj : ∀ b o, H b = some o → RepO (Imm H w) w b o
  glob : ∀ g cs, G g = some cs → GRep (Imm H w) w g cs

section
variable {G : GT} {H H' : HM} {w w' : World}
theorem St.globr (h : St G H w) {g : Nat} {cs : List AV} (e : G g = some cs) : Rep (Imm H w) w (.ref cs) (.pointer (some ⟨g, 0, none⟩)) := (h.glob g cs e).rep
theorem St.drop {H0 : HM} (h : St G H w) (h0 : ∀ b, H0 b = none ∨ H0 b = H b) : St G H0 w := by
  have hI : ∀ b, Imm H w b → Imm H0 w b := fun b hb => ⟨hb.1, by rcases h0 b with e | e <;> simp [e, hb.2]⟩
  refine ⟨fun b o e => ?_, fun g cs e => (h.glob g cs e).map (fun hi _ => hI _ hi) (fun _ _ => rfl) fun hr => hr.keep hI fun _ _ => rfl⟩
  rcases h0 b with e' | e'
  · rw [e'] at e; cases e
  · exact (h.obj b o (e' ▸ e)).keep hI (fun _ _ => rfl) rfl
/-- Nothing but new blocks. -/
theorem St.evo (h : St G H w) (he : Evo H w H w') (hs : ∀ b o, H b = some o → w'.heap[b]? = w.heap[b]?) : St G H w' :=
  ⟨fun b o e => (h.obj b o e).keep he.imm he.same (hs b o e), fun g cs e => (h.glob g cs e).map (fun hi _ => he.imm _ hi) (fun hi _ => he.same _ hi) fun hr => he.repL hr⟩
theorem heap_push (w : World) (o : Obj) {b : Nat} (h : b < w.heap.size) : ({ w with heap := w.heap.push o } : World).heap[b]? = w.heap[b]? := by
  simp [Array.getElem?_push]; omega
theorem evo_push (H : HM) (w : World) (o : Obj) : Evo H w H { w with heap := w.heap.push o } :=
  ⟨rfl, rfl, rfl, by simp, fun b hb => ⟨hb.2, heap_push w o hb.1⟩⟩
theorem St.push (h : St G H w) (o : Obj) : St G H { w with heap := w.heap.push o } :=
  h.evo (evo_push H w o) fun b o' e => heap_push w o (h.obj b o' e).lt
theorem St.fresh (h : St G H w) {b : Nat} (hb : w.heap.size ≤ b) : H b = none := by
  cases e : H b with
  | none => rfl
  | some o => have := (h.obj b o e).lt; omega
/-- A new object. -/
theorem evo_new {o : Obj} {ao : AObj} (h : St G H w) : Evo H w (H.upd w.heap.size ao) { w with heap := w.heap.push o } := by
  refine ⟨rfl, rfl, rfl, by simp, fun b hb => ⟨?_, heap_push w o hb.1⟩⟩
  rw [HM.upd_ne _ _ (by have := hb.1; omega)]; exact hb.2
theorem St.new {o : Obj} {ao : AObj} (h : St G H w) (hn : RepO (Imm (H.upd w.heap.size ao) { w with heap := w.heap.push o }) { w with heap := w.heap.push o } w.heap.size ao) :
    St G (H.upd w.heap.size ao) { w with heap := w.heap.push o } := by
  refine ⟨fun b o' e => ?_, fun g cs e => (h.glob g cs e).map (fun hi _ => (evo_new (ao := ao) h).imm _ hi) (fun hi _ => (evo_new (ao := ao) h).same _ hi) fun hr => (evo_new h).repL hr⟩
  by_cases hb : b = w.heap.size
  · subst hb; rw [HM.upd_same] at e; cases e; exact hn
  · rw [HM.upd_ne _ _ hb] at e
    exact (h.obj b o' e).keep (evo_new (ao := ao) h).imm (evo_new (ao := ao) h).same (heap_push w o (h.obj b o' e).lt)
/-- A change of one object. -/
theorem evo_set {b : Nat} {o : AObj} (hw : w'.os = w.os) (ht : w'.tape = w.tape) (ho : w'.output = w.output) (hsz : w'.heap.size = w.heap.size) (hk : ∀ k, k ≠ b → w'.heap[k]? = w.heap[k]?)
    (hb : H b ≠ none) : Evo H w (H.upd b o) w' :=
  ⟨hw, ht, ho, by omega, fun k hi => by
    have : k ≠ b := fun e => hb (e ▸ hi.2)
    exact ⟨by rw [HM.upd_ne _ _ this]; exact hi.2, hk k this⟩⟩
theorem St.set {b : Nat} {o : AObj} (h : St G H w) (he : Evo H w (H.upd b o) w') (hk : ∀ k, k ≠ b → w'.heap[k]? = w.heap[k]?) (hn : RepO (Imm (H.upd b o) w') w' b o) : St G (H.upd b o) w' := by
  refine ⟨fun k o' e => ?_, fun g cs e => (h.glob g cs e).map (fun hi _ => he.imm _ hi) (fun hi _ => he.same _ hi) fun hr => he.repL hr⟩
  by_cases hb : k = b
  · subst hb; rw [HM.upd_same] at e; cases e; exact hn
  · rw [HM.upd_ne _ _ hb] at e
    exact (h.obj k o' e).keep he.imm he.same (hk k hb)
end
end Go.V
