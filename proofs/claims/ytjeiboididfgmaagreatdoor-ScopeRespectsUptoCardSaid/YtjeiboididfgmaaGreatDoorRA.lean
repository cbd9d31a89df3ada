/- Abstract values, how they are represented in a world, and what keeps them represented. No condition. Weakest preconditions over abstract states: calls, operations, regions, control. No condition. Operations that only compute and read, by value. No condition. Operations that make or change objects of one's own; the calculus of an operation. No condition. The calculus of operations, regions and functions over abstract states. No condition. -/
import Derived.RangeFuncRecord
import Derived.OrdersIn
import Derived.Laws.Sem
import Derived.Laws.World
import Derived.Laws.Cells
import Derived.Below
import Derived.RangeFuncLeaves
import Derived.Laws.Entries
import Derived.Laws.Strings
import Derived.ChangeKeysEq
import Derived.Laws.Append
import Derived.Maps.RangeRun
set_option linter.unusedVariables false
set_option linter.unusedSimpArgs false
namespace Go.V
open Go
inductive AV where
 |val (v:Value)
 |agg (cs:List AV)
 |tup (vs:List AV)
 |list (xs:List AV)
 |ref (cs:List AV)
 |addr (b off:Nat)
 |elem (b i sz off:Nat)
 |nil0
 |mlist (b n cap:Nat)
 |map (b:Nat)
 |imap (es:List (AV×AV))
 |func (fn:Fn) (first cap:List AV)
 |iface (t:TypeId) (v:AV)
 deriving Inhabited
namespace AV
abbrev int (n:Int):AV:=.val (.int .i64 n)
abbrev str (s:ByteArray):AV:=.val (.string s)
abbrev bool (b:Bool):AV:=.val (.bool b)
abbrev unit:AV:=.val (.tuple #[])
abbrev fn (f:FuncId):AV:=.func (.func f) [] []
def cells:AV->List AV
 |.agg cs=>cs
 |v=>[v]
end AV
def flat (xs:List AV):List AV:=xs.flatMap AV.cells
def lim:Nat:=68719476736
def okV:Value->Prop
 |.string s=>s.size<=lim
 |.agg _=>False
 |_=>True
def Stamps (ents:Array MapEntry) (clock:Nat):Prop:=(∀ e∈ents.toList,e.born<clock)/\(ents.toList.map (·.born)).Nodup
def Reads (w:World) (ad:Addr) (vs:List Value):Prop:=∀ i v,vs[i]?=some v->w.cell? (ad.add i)=some v
mutual
inductive Rep (I:Nat->Prop) (w:World):AV->Value->Prop
 |val (v:Value) (h:okV v):Rep I w (.val v) v
 |agg {cs vs} (h1:∀ v∈vs,v.oneCell'=true) (h:RepL I w cs vs):Rep I w (.agg cs) (.agg vs.toArray)
 |tup {cs vs} (h:RepL I w cs vs):Rep I w (.tup cs) (.tuple vs.toArray)
 |nil (a:Option Addr) (cap:Nat):Rep I w (.list []) (.slice a 0 cap)
 |list {xs vs ad cap sz} (hI:vs≠[]->I ad.block) (hs:ad.spot=none) (hz:∀ x∈xs,x.cells.length=sz) (hr:Reads w ad vs)
   (h1:∀ v∈vs,v.oneCell'=true) (hc:xs.length<=cap) (hl:xs.length<=lim) (h:RepL I w (flat xs) vs):Rep I w (.list xs) (.slice (some ad) xs.length cap)
 |ref {cs vs ad} (hI:vs≠[]->I ad.block) (hs:ad.spot=none) (hr:Reads w ad vs) (h1:∀ v∈vs,v.oneCell'=true) (h:RepL I w cs vs):Rep I w (.ref cs) (.pointer (some ad))
 |addr (b off:Nat):Rep I w (.addr b off) (.pointer (some ⟨b,off,none⟩))
 |elem (b i sz off:Nat):Rep I w (.elem b i sz off) (.pointer (some ⟨b,i*sz+off,none⟩))
 |nil0 (a:Option Addr):Rep I w .nil0 (.slice a 0 0)
 |mlist (b n cap:Nat):Rep I w (.mlist b n cap) (.slice (some ⟨b,0,none⟩) n cap)
 |map (b:Nat):Rep I w (.map b) (.map (some b))
 |imap {es r ents clock} (hI:I r) (hr:w.heap[r]?=some (.map ents clock)) (hst:Stamps ents clock) (hk:RepL I w (es.map (·.1)) (ents.toList.map (·.key)))
   (hv:RepL I w (es.map (·.2)) (ents.toList.map (·.val))):Rep I w (.imap es) (.map (some r))
 |func {fn fs cs vs us} (hf:RepL I w fs vs) (hc:RepL I w cs us):Rep I w (.func fn fs cs) (.func fn vs.toArray us.toArray)
 |iface {t a v} (h:Rep I w a v):Rep I w (.iface t a) (.iface t v)
inductive RepL (I:Nat->Prop) (w:World):List AV->List Value->Prop
 |nil:RepL I w [] []
 |cons {a v as vs} (h:Rep I w a v) (hs:RepL I w as vs):RepL I w (a::as) (v::vs)
end
section
variable {I I':Nat->Prop} {w w':World}
theorem Addr.add_block (a:Addr) (n:Nat):(a.add n).block=a.block:=by unfold Addr.add;split<;>rfl
def isData (w:World) (b:Nat):Bool:=match w.heap[b]? with
 |some (.cells ..)|some (.map ..)=>true
 |_=>false
theorem data_of_cell {a:Addr} {v:Value} (h:w.cell? a=some v):isData w a.block=true:=by
 unfold World.cell? at h
 unfold isData
 split at h
 ·rename_i e;rw[e]
 ·cases h
theorem data_of_reads {ad:Addr} {vs:List Value} (h:Reads w ad vs) (hn:vs≠[]):isData w ad.block=true:=by
 cases vs with
 |nil=>exact absurd rfl hn
 |cons v vs=>have:=data_of_cell (h 0 v rfl);rwa [Addr.add_block] at this
theorem Rep.keep2 {a:AV} {v:Value} (h:Rep I w a v) (hI:∀ b,I b->isData w b=true->I' b) (hc:∀ a v,I a.block->w.cell? a=some v->w'.cell? a=some v)
  (hm:∀ b es c,I b->w.heap[b]?=some (.map es c)->w'.heap[b]?=some (.map es c)):Rep I' w' a v:=by
 have hr:∀ {ad:Addr} {vs:List Value},(vs≠[]->I ad.block)->Reads w ad vs->Reads w' ad vs:=fun hb h i v hi=>hc _ _ (by rw[Addr.add_block];exact hb (by rintro rfl;simp at hi)) (h i v hi)
 refine Rep.rec (motive_1:=fun a v _=>Rep I' w' a v) (motive_2:=fun as vs _=>RepL I' w' as vs)
  ?_ ?_ ?_ ?_ ?_ ?_ ?_ ?_ ?_ ?_ ?_ ?_ ?_ ?_ ?_ ?_ h
 ·intro v h;exact .val v h
 ·intro cs vs h1 _ h;exact .agg h1 h
 ·intro cs vs _ h;exact .tup h
 ·intro a cap;exact .nil a cap
 ·intro xs vs ad cap sz h1 h2 h3 h4 h0 h5 h6 _ h7;exact .list (fun hn=>hI _ (h1 hn) (data_of_reads h4 hn)) h2 h3 (hr h1 h4) h0 h5 h6 h7
 ·intro cs vs ad h1 h2 h3 h0 _ h4;exact .ref (fun hn=>hI _ (h1 hn) (data_of_reads h3 hn)) h2 (hr h1 h3) h0 h4
 ·intro b off;exact .addr b off
 ·intro b i sz off;exact .elem b i sz off
 ·intro a;exact .nil0 a
 ·intro b n cap;exact .mlist b n cap
 ·intro b;exact .map b
 ·intro es r ents clock h1 h2 h0 _ _ h3 h4;exact .imap (hI _ h1 (by simp[isData,h2])) (hm _ _ _ h1 h2) h0 h3 h4
 ·intro fn fs cs vs us _ _ h1 h2;exact .func h1 h2
 ·intro t a v _ h;exact .iface h
 ·exact .nil
 ·intro a v as vs _ _ h1 h2;exact .cons h1 h2
theorem Rep.keep {a:AV} {v:Value} (h:Rep I w a v) (hI:∀ b,I b->I' b) (hb:∀ b,I b->w'.heap[b]?=w.heap[b]?):Rep I' w' a v:=
 h.keep2 (fun b hb _=>hI b hb) (fun a v ha hc=>by unfold World.cell? at *;rw[hb _ ha];exact hc) fun b es c ha hm=>(hb _ ha).trans hm
theorem RepL.keep2:∀ {as:List AV} {vs:List Value},RepL I w as vs->(∀ b,I b->isData w b=true->I' b)->(∀ a v,I a.block->w.cell? a=some v->w'.cell? a=some v) ->
  (∀ b es c,I b->w.heap[b]?=some (.map es c)->w'.heap[b]?=some (.map es c))->RepL I' w' as vs
 |_,_,.nil,_,_,_=>.nil
 |_,_,.cons h hs,hI,hc,hm=>.cons (h.keep2 hI hc hm) (hs.keep2 hI hc hm)
theorem RepL.keep:∀ {as:List AV} {vs:List Value},RepL I w as vs->(∀ b,I b->I' b)->(∀ b,I b->w'.heap[b]?=w.heap[b]?)->RepL I' w' as vs
 |_,_,.nil,_,_=>.nil
 |_,_,.cons h hs,hI,hb=>.cons (h.keep hI hb) (hs.keep hI hb)
theorem RepL.length:∀ {as:List AV} {vs:List Value},RepL I w as vs->as.length=vs.length
 |_,_,.nil=>rfl
 |_,_,.cons _ hs=>by simp[hs.length]
theorem RepL.get:∀ {as:List AV} {vs:List Value},RepL I w as vs->∀ (i:Nat) (a:AV),as[i]?=some a->∃ v,vs[i]?=some v/\Rep I w a v
 |_,_,.nil,i,a,h=>by simp at h
 |_,_,.cons h hs,0,a,e=>by simp at e;subst e;exact ⟨_,rfl,h⟩
 |_,_,.cons h hs,i+1,a,e=>by simp at e;obtain ⟨v,h1,h2⟩:=hs.get i a e;exact ⟨v,by simpa using h1,h2⟩
theorem RepL.append:∀ {as:List AV} {vs:List Value} {bs:List AV} {us:List Value},RepL I w as vs->RepL I w bs us->RepL I w (as++bs) (vs++us)
 |_,_,_,_,.nil,h=>h
 |_,_,_,_,.cons h hs,h2=>.cons h (hs.append h2)
theorem RepL.drop:∀ (n:Nat) {as:List AV} {vs:List Value},RepL I w as vs->RepL I w (as.drop n) (vs.drop n)
 |0,_,_,h=>by simpa using h
 |n+1,_,_,.nil=>by simp;exact .nil
 |n+1,_,_,.cons _ hs=>by simpa using hs.drop n
theorem RepL.take:∀ (n:Nat) {as:List AV} {vs:List Value},RepL I w as vs->RepL I w (as.take n) (vs.take n)
 |0,_,_,h=>by simp;exact .nil
 |n+1,_,_,.nil=>by simp;exact .nil
 |n+1,_,_,.cons h hs=>by simp;exact .cons h (hs.take n)
theorem RepL.of_append {as bs:List AV} {vs:List Value} (h:RepL I w (as++bs) vs):RepL I w as (vs.take as.length)/\RepL I w bs (vs.drop as.length):=by
 have h1:=h.take as.length
 have h2:=h.drop as.length
 rw[List.take_left] at h1
 rw[List.drop_left] at h2
 exact ⟨h1,h2⟩
theorem RepL.map_ {α:Type} (f:α->AV) (g:α->Value):∀ (l:List α),(∀ x∈l,Rep I w (f x) (g x))->RepL I w (l.map f) (l.map g)
 |[],_=>.nil
 |x::l,h=>.cons (h x (by simp)) (RepL.map_ f g l fun y hy=>h y (by simp[hy]))
theorem flat_cons (x:AV) (xs:List AV):flat (x::xs)=x.cells++flat xs:=by simp[flat]
theorem flat_append (xs ys:List AV):flat (xs++ys)=flat xs++flat ys:=by simp[flat]
theorem F12 {xs:List AV} {sz:Nat} (h:∀ x∈xs,x.cells.length=sz):(flat xs).length=xs.length*sz:=by
 induction xs with
 |nil=>simp[flat]
 |cons x xs ih=>
  rw[flat_cons,List.length_append,h x (by simp),ih fun y hy=>h y (by simp[hy]),List.length_cons,Nat.succ_mul]
  omega
theorem flat_drop {xs:List AV} {sz:Nat} (h:∀ x∈xs,x.cells.length=sz) (i:Nat):(flat xs).drop (i*sz)=flat (xs.drop i):=by
 induction i generalizing xs with
 |zero=>simp
 |succ i ih=>
  cases xs with
  |nil=>simp[flat]
  |cons x xs=>
   rw[flat_cons,List.drop_succ_cons,<-ih fun y hy=>h y (by simp[hy])]
   have hx:=h x (by simp)
   rw[show (i+1)*sz=x.cells.length+i*sz from by rw[hx,Nat.succ_mul];omega,<-List.drop_drop,List.drop_left]
theorem Rep.cells {a:AV} {v:Value} (h:Rep I w a v):RepL I w a.cells v.cells.toList:=by
 cases h with
 |agg h1 h=>simpa[AV.cells,Value.cells] using h
 |val v h=>
  have hv:v.cells = #[v]:=by cases v<;>first|rfl|exact h.elim
  rw[hv];exact .cons (.val v h) .nil
 |tup h=>exact .cons (.tup h) .nil
 |nil a cap=>exact .cons (.nil a cap) .nil
 |list h1 h2 h3 h4 h5 h6 h7 h8=>exact .cons (.list h1 h2 h3 h4 h5 h6 h7 h8) .nil
 |ref h1 h2 h3 h4 h5=>exact .cons (.ref h1 h2 h3 h4 h5) .nil
 |addr b off=>exact .cons (.addr b off) .nil
 |elem b i sz off=>exact .cons (.elem b i sz off) .nil
 |nil0 a=>exact .cons (.nil0 a) .nil
 |mlist b n cap=>exact .cons (.mlist b n cap) .nil
 |map b=>exact .cons (.map b) .nil
 |imap h1 h2 h3 h4 h5=>exact .cons (.imap h1 h2 h3 h4 h5) .nil
 |func h1 h2=>exact .cons (.func h1 h2) .nil
 |iface h=>exact .cons (.iface h) .nil
def AV.one:AV->Bool
 |.tup _=>false
 |.val v=>v.oneCell'
 |_=>true
theorem Rep.one {a:AV} {v:Value} (h:Rep I w a v) (ha:a.one=true):∀ u∈v.cells.toList,u.oneCell'=true:=by
 cases h with
 |agg h1 h=>simpa[Value.cells] using h1
 |val v h=>
  have hv:v.cells = #[v]:=by cases v<;>first|rfl|exact h.elim
  rw[hv];simpa[AV.one] using ha
 |tup h=>simp[AV.one] at ha
 |_=>simp[Value.cells,Value.oneCell']
theorem Rep.val_eq {v u:Value} (h:Rep I w (.val v) u):u=v:=by cases h;rfl
theorem Rep.size {a:AV} {v:Value} (h:Rep I w a v):a.cells.length=v.cells.size:=by
 rw[h.cells.length];simp
end
inductive AObj where
 |cells (t:TypeId) (cs:List AV)
 |row (t:TypeId) (sz cap:Nat) (xs:List AV)
 |map (es:List (AV×AV))
 |loop (l:Loop) (tm:Nat->AV)
 |siter (s:ByteArray) (pos:Nat)
 |miter (es:List (AV×AV)) (seen:List Nat)
abbrev HM:=Nat->Option AObj
def HM.upd (H:HM) (b:Nat) (o:AObj):HM:=fun k=>if k=b then some o else H k
def HM.del (H:HM) (b:Nat):HM:=fun k=>if k=b then none else H k
theorem HM.upd_same (H:HM) (b:Nat) (o:AObj):H.upd b o b=some o:=by simp[HM.upd]
theorem HM.upd_ne (H:HM) {b k:Nat} (o:AObj) (h:k≠b):H.upd b o k=H k:=by simp[HM.upd,h]
theorem HM.upd_upd (H:HM) (b:Nat) (o o':AObj):(H.upd b o).upd b o'=H.upd b o':=by
 funext k;simp only[HM.upd];split<;>rfl
theorem HM.upd_comm (H:HM) {b c:Nat} (o o':AObj) (h:b≠c):(H.upd b o).upd c o'=(H.upd c o').upd b o:=by
 funext k;simp only[HM.upd];split<;>split<;>simp_all
def Imm (H:HM) (w:World) (b:Nat):Prop:=b<w.heap.size/\H b=none
def RepO (I:Nat->Prop) (w:World) (b:Nat):AObj->Prop
 |.cells t cs=>∃ vs,w.heap[b]?=some (.cells vs.toArray t (0,0))/\RepL I w cs vs/\∀ v∈vs,v.oneCell'=true
 |.row t sz cap xs=>∃ vs rest,w.heap[b]?=some (.cells (vs++rest).toArray t (0,0))/\RepL I w (flat xs) vs/\(∀ x∈xs,x.cells.length=sz)/\(∀ v∈vs,v.oneCell'=true) /\
   rest.length+xs.length*sz=cap*sz/\xs.length<=cap
 |.map es=>∃ ents clock,w.heap[b]?=some (.map ents clock)/\RepL I w (es.map (·.1)) (ents.toList.map (·.key))/\RepL I w (es.map (·.2)) (ents.toList.map (·.val))/\Stamps ents clock
 |.siter s pos=>w.heap[b]?=some (.stringIter s pos)
 |.miter es seen=>∃ m since sb last,w.heap[b]?=some (.mapIter m since sb last)/\((m=none/\es=[])\/∃ r ents,m=some r/\I r/\w.heap[r]?=some (.map ents since)/\last=since/\Stamps ents since /\
   RepL I w (es.map (·.1)) (ents.toList.map (·.key))/\RepL I w (es.map (·.2)) (ents.toList.map (·.val))/\sb.toList=seen.filterMap (fun i=>(ents[i]?).map (·.born))/\∀ i∈seen,i<ents.size)
 |.loop l tm=>w.heap[b]?=some (.loop l)/\∀ t,Rep I w (tm t) (l.tmps.getD t undef)
theorem RepO.lt {I:Nat->Prop} {w:World} {b:Nat} {o:AObj} (h:RepO I w b o):b<w.heap.size:=by
 cases o<;>simp only[RepO] at h
 ·obtain ⟨_,h,_⟩:=h;exact (Array.getElem?_eq_some_iff.1 h).1
 ·obtain ⟨_,_,h,_⟩:=h;exact (Array.getElem?_eq_some_iff.1 h).1
 ·obtain ⟨_,_,h,_⟩:=h;exact (Array.getElem?_eq_some_iff.1 h).1
 ·exact (Array.getElem?_eq_some_iff.1 h.1).1
 ·exact (Array.getElem?_eq_some_iff.1 h).1
 ·obtain ⟨_,_,_,_,h,_⟩:=h;exact (Array.getElem?_eq_some_iff.1 h).1
theorem RepO.keep {I I':Nat->Prop} {w w':World} {b:Nat} {o:AObj} (h:RepO I w b o) (hI:∀ b,I b->I' b) (hb:∀ b,I b->w'.heap[b]?=w.heap[b]?)
  (hs:w'.heap[b]?=w.heap[b]?):RepO I' w' b o:=by
 cases o<;>simp only[RepO] at h ⊢ <;> rw[hs]
 ·obtain ⟨vs,h1,h2,h3⟩:=h;exact ⟨vs,h1,h2.keep hI hb,h3⟩
 ·obtain ⟨vs,rest,h1,h2,h3⟩:=h;exact ⟨vs,rest,h1,h2.keep hI hb,h3⟩
 ·obtain ⟨es,c,h1,h2,h3,h4⟩:=h;exact ⟨es,c,h1,h2.keep hI hb,h3.keep hI hb,h4⟩
 ·exact ⟨h.1,fun t=>(h.2 t).keep hI hb⟩
 ·exact h
 ·obtain ⟨m,si,sb,la,h1,h2⟩:=h
  refine ⟨m,si,sb,la,h1,h2.imp id ?_⟩
  rintro ⟨r,ents,e1,e2,e3,e4,e5,e6,e7,e8⟩
  exact ⟨r,ents,e1,hI _ e2,(hb _ e2).trans e3,e4,e5,e6.keep hI hb,e7.keep hI hb,e8⟩
structure Evo (H:HM) (w:World) (H':HM) (w':World):Prop where
 os:w'.os=w.os
 tape:w'.tape=w.tape
 output:w'.output=w.output
 size:w.heap.size<=w'.heap.size
 block:∀ b,Imm H w b->H' b=none/\w'.heap[b]?=w.heap[b]?
theorem Evo.refl (H:HM) (w:World):Evo H w H w:=⟨rfl,rfl,rfl,Nat.le_refl _,fun b h=>⟨h.2,rfl⟩⟩
theorem Evo.imm {H H':HM} {w w':World} (h:Evo H w H' w'):∀ b,Imm H w b->Imm H' w' b:=fun b hb=>⟨Nat.lt_of_lt_of_le hb.1 h.size,(h.block b hb).1⟩
theorem Evo.same {H H':HM} {w w':World} (h:Evo H w H' w'):∀ b,Imm H w b->w'.heap[b]?=w.heap[b]?:=fun b hb=>(h.block b hb).2
theorem Evo.trans {H H1 H2:HM} {w w1 w2:World} (h:Evo H w H1 w1) (h':Evo H1 w1 H2 w2):Evo H w H2 w2:=
 ⟨h'.os.trans h.os,h'.tape.trans h.tape,h'.output.trans h.output,Nat.le_trans h.size h'.size,
  fun b hb=>⟨(h'.block b (h.imm b hb)).1,((h'.block b (h.imm b hb)).2).trans (h.block b hb).2⟩⟩
theorem Evo.rep {H H':HM} {w w':World} (h:Evo H w H' w') {a:AV} {v:Value} (hr:Rep (Imm H w) w a v):Rep (Imm H' w') w' a v:=hr.keep h.imm h.same
theorem Evo.repL {H H':HM} {w w':World} (h:Evo H w H' w') {a:List AV} {v:List Value} (hr:RepL (Imm H w) w a v):RepL (Imm H' w') w' a v:=hr.keep h.imm h.same
theorem Evo.drop {H H' H0:HM} {w w':World} (h:Evo H w H' w') (h0:∀ b,H0 b=none\/H0 b=H' b):Evo H w H0 w':=
 ⟨h.os,h.tape,h.output,h.size,fun b hb=>⟨by rcases h0 b with e|e<;>simp[e,(h.block b hb).1],(h.block b hb).2⟩⟩
abbrev GT:=Nat->Option (List AV)
def GRep (I:Nat->Prop) (w:World) (g:Nat) (cs:List AV):Prop:=∃ vs t fr,w.heap[g]?=some (.cells vs.toArray t fr)/\I g/\RepL I w cs vs/\∀ v∈vs,v.oneCell'=true
theorem GRep.map {I I':Nat->Prop} {w w':World} {g:Nat} {cs:List AV} (h:GRep I w g cs) (hI:I g->isData w g=true->I' g) (hg:I g->isData w g=true->w'.heap[g]?=w.heap[g]?)
  (hr:∀ {as:List AV} {vs:List Value},RepL I w as vs->RepL I' w' as vs):GRep I' w' g cs:=by
 obtain ⟨vs,t,fr,h1,h2,h3,h4⟩:=h
 have hd:isData w g=true:=by simp[isData,h1]
 exact ⟨vs,t,fr,(hg h2 hd).trans h1,hI h2 hd,hr h3,h4⟩
theorem GRep.rep {I:Nat->Prop} {w:World} {g:Nat} {cs:List AV} (h:GRep I w g cs):Rep I w (.ref cs) (.pointer (some ⟨g,0,none⟩)):=by
 obtain ⟨vs,t,fr,h1,h2,h3,h4⟩:=h
 refine .ref (fun _=>h2) rfl (fun i v hi=>?_) h4 h3
 have:(⟨g,0,none⟩:Addr).add i=⟨g,0+i,none⟩:=by unfold Addr.add;split<;>simp_all
 rw[this]
 simp only[World.cell?,h1]
 simpa using hi
structure St (G:GT) (H:HM) (w:World):Prop where
 obj:∀ b o,H b=some o->RepO (Imm H w) w b o
 glob:∀ g cs,G g=some cs->GRep (Imm H w) w g cs
section
variable {G:GT} {H H':HM} {w w':World}
theorem St.globr (h:St G H w) {g:Nat} {cs:List AV} (e:G g=some cs):Rep (Imm H w) w (.ref cs) (.pointer (some ⟨g,0,none⟩)):=(h.glob g cs e).rep
theorem St.drop {H0:HM} (h:St G H w) (h0:∀ b,H0 b=none\/H0 b=H b):St G H0 w:=by
 have hI:∀ b,Imm H w b->Imm H0 w b:=fun b hb=>⟨hb.1,by rcases h0 b with e|e<;>simp[e,hb.2]⟩
 refine ⟨fun b o e=>?_,fun g cs e=>(h.glob g cs e).map (fun hi _=>hI _ hi) (fun _ _=>rfl) fun hr=>hr.keep hI fun _ _=>rfl⟩
 rcases h0 b with e'|e'
 ·rw[e'] at e;cases e
 ·exact (h.obj b o (e'▸e)).keep hI (fun _ _=>rfl) rfl
theorem St.evo (h:St G H w) (he:Evo H w H w') (hs:∀ b o,H b=some o->w'.heap[b]?=w.heap[b]?):St G H w':=
 ⟨fun b o e=>(h.obj b o e).keep he.imm he.same (hs b o e),fun g cs e=>(h.glob g cs e).map (fun hi _=>he.imm _ hi) (fun hi _=>he.same _ hi) fun hr=>he.repL hr⟩
theorem heap_push (w:World) (o:Obj) {b:Nat} (h:b<w.heap.size):({ w with heap:=w.heap.push o }:World).heap[b]?=w.heap[b]?:=by
 simp[Array.getElem?_push];omega
theorem evo_push (H:HM) (w:World) (o:Obj):Evo H w H { w with heap:=w.heap.push o }:=
 ⟨rfl,rfl,rfl,by simp,fun b hb=>⟨hb.2,heap_push w o hb.1⟩⟩
theorem St.push (h:St G H w) (o:Obj):St G H { w with heap:=w.heap.push o }:=
 h.evo (evo_push H w o) fun b o' e=>heap_push w o (h.obj b o' e).lt
theorem St.fresh (h:St G H w) {b:Nat} (hb:w.heap.size<=b):H b=none:=by
 cases e:H b with
 |none=>rfl
 |some o=>have:=(h.obj b o e).lt;omega
theorem T13 {o:Obj} {ao:AObj} (h:St G H w):Evo H w (H.upd w.heap.size ao) { w with heap:=w.heap.push o }:=by
 refine ⟨rfl,rfl,rfl,by simp,fun b hb=>⟨?_,heap_push w o hb.1⟩⟩
 rw[HM.upd_ne _ _ (by have:=hb.1;omega)];exact hb.2
theorem St.new {o:Obj} {ao:AObj} (h:St G H w) (hn:RepO (Imm (H.upd w.heap.size ao) { w with heap:=w.heap.push o }) { w with heap:=w.heap.push o } w.heap.size ao) :
  St G (H.upd w.heap.size ao) { w with heap:=w.heap.push o }:=by
 refine ⟨fun b o' e=>?_,fun g cs e=>(h.glob g cs e).map (fun hi _=>(T13 (ao:=ao) h).imm _ hi) (fun hi _=>(T13 (ao:=ao) h).same _ hi) fun hr=>(T13 h).repL hr⟩
 by_cases hb:b=w.heap.size
 ·subst hb;rw[HM.upd_same] at e;cases e;exact hn
 ·rw[HM.upd_ne _ _ hb] at e
  exact (h.obj b o' e).keep (T13 (ao:=ao) h).imm (T13 (ao:=ao) h).same (heap_push w o (h.obj b o' e).lt)
theorem evo_set {b:Nat} {o:AObj} (hw:w'.os=w.os) (ht:w'.tape=w.tape) (ho:w'.output=w.output) (hsz:w'.heap.size=w.heap.size) (hk:∀ k,k≠b->w'.heap[k]?=w.heap[k]?)
  (hb:H b≠none):Evo H w (H.upd b o) w':=
 ⟨hw,ht,ho,by omega,fun k hi=>by
  have:k≠b:=fun e=>hb (e▸hi.2)
  exact ⟨by rw[HM.upd_ne _ _ this];exact hi.2,hk k this⟩⟩
theorem St.set {b:Nat} {o:AObj} (h:St G H w) (he:Evo H w (H.upd b o) w') (hk:∀ k,k≠b->w'.heap[k]?=w.heap[k]?) (hn:RepO (Imm (H.upd b o) w') w' b o):St G (H.upd b o) w':=by
 refine ⟨fun k o' e=>?_,fun g cs e=>(h.glob g cs e).map (fun hi _=>he.imm _ hi) (fun hi _=>he.same _ hi) fun hr=>he.repL hr⟩
 by_cases hb:k=b
 ·subst hb;rw[HM.upd_same] at e;cases e;exact hn
 ·rw[HM.upd_ne _ _ hb] at e
  exact (h.obj k o' e).keep he.imm he.same (hk k hb)
end
open Go
inductive ARes where
 |ret (a:AV)
 |pan (a:AV)
abbrev wide:Fence:=Fence.wide
def W (r:Option Nat):Fence:={ Fence.wide with round:=r }
def NUpon (P:Program) (K Kp:Value->World->Prop):Result Next->Prop
 |.ok (.value v) w'=>K v w'
 |.ok .skip w'=>K undef w'
 |.ok (.enter f args) w'=>CallsIn wide 0 P f args w' fun
   |.returned v,w''=>K v w''
   |.panicked chain,w''=>∃ v,chain=[{ v,recovered:=false }]/\Kp v w''
   |.outgrown,_=>False
 |.ok (.round l f tmps assign body) w'=>RoundIn wide 0 P l f tmps assign body w' fun
   |.returned v,w''=>K v w''
   |.panicked chain,w''=>∃ v,chain=[{ v,recovered:=false }]/\Kp v w''
   |.outgrown,_=>False
 |.halt (.panic v) w'=>Kp v w'
 |_=>False
def Out (G:GT) (H0:HM) (w0:World) (K:AV->HM->Prop) (v:Value) (w':World):Prop:=
 ∃ a H',K a H'/\Rep (Imm H' w') w' a v/\St G H' w'/\Evo H0 w0 H' w'
theorem Out.mono {G:GT} {H0:HM} {w0:World} {K K':AV->HM->Prop} {v:Value} {w':World} (h:Out G H0 w0 K v w') (hk:∀ a H',K a H'->K' a H'):Out G H0 w0 K' v w':=
 let ⟨a,H',k,r⟩:=h;⟨a,H',hk _ _ k,r⟩
theorem NUpon.mono {P:Program} {K Kp K' Kp':Value->World->Prop} {r:Result Next} (h:NUpon P K Kp r) (hk:∀ v w,K v w->K' v w) (hp:∀ v w,Kp v w->Kp' v w):NUpon P K' Kp' r:=by
 cases r with
 |halt x w'=>cases x<;>simp only[NUpon] at h ⊢ <;> exact hp _ _ h
 |ok x w'=>
  cases x<;>simp only[NUpon] at h ⊢
  case value=>exact hk _ _ h
  case skip=>exact hk _ _ h
  case enter=>exact CallsIn.mono h fun e w'' he=>by cases e<;>first|exact hk _ _ he|exact (let ⟨v,e1,e2⟩:=he;⟨v,e1,hp _ _ e2⟩)|exact he
  case round=>exact RoundIn.mono h fun e w'' he=>by cases e<;>first|exact hk _ _ he|exact (let ⟨v,e1,e2⟩:=he;⟨v,e1,hp _ _ e2⟩)|exact he
def CallV (P:Program) (G:GT) (fv:AV) (args:List AV) (H:HM) (K:ARes->HM->Prop):Prop:=
 ∀ w f vs,Rep (Imm H w) w fv f->RepL (Imm H w) w args vs->St G H w ->
  NUpon P (Out G H w fun a=>K (.ret a)) (Out G H w fun a=>K (.pan a)) ((do let d <- Deferred.ofValue f vs.toArray;invoke d.target d.args:Sem Next).run P w)
def CallF (P:Program) (G:GT) (f:FuncId) (args:List AV) (H:HM) (K:ARes->HM->Prop):Prop:=
 ∀ w vs,RepL (Imm H w) w args vs->St G H w->CallsIn wide 0 P f vs.toArray w fun
   |.returned v,w''=>Out G H w (fun a=>K (.ret a)) v w''
   |.panicked chain,w''=>∃ v,chain=[{ v,recovered:=false }]/\Out G H w (fun a=>K (.pan a)) v w''
   |.outgrown,_=>False
theorem CallV.mono {P:Program} {G:GT} {fv:AV} {args:List AV} {H:HM} {K K':ARes->HM->Prop} (h:CallV P G fv args H K) (hk:∀ r H',K r H'->K' r H'):CallV P G fv args H K':=
 fun w f vs h1 h2 h3=>(h w f vs h1 h2 h3).mono (fun _ _ o=>o.mono fun _ _=>hk _ _) (fun _ _ o=>o.mono fun _ _=>hk _ _)
theorem CallF.mono {P:Program} {G:GT} {f:FuncId} {args:List AV} {H:HM} {K K':ARes->HM->Prop} (h:CallF P G f args H K) (hk:∀ r H',K r H'->K' r H'):CallF P G f args H K':=
 fun w vs h1 h2=>CallsIn.mono (h w vs h1 h2) fun e w' he=>by
  cases e<;>first|exact he.mono fun _ _=>hk _ _|exact (let ⟨v,e1,e2⟩:=he;⟨v,e1,e2.mono fun _ _=>hk _ _⟩)|exact he
def Plain (P:Program) (f:FuncId):Bool:=match P.funcs[f]? with|some fn=>fn.name != "runtime.NumGoroutine" && fn.body.isSome|none=>false
theorem run_callFunc {P:Program} {f:FuncId} (h:Plain P f=true) (args:Array Value) (w:World):(callFunc f args).run P w=.ok (.enter f args) w:=by
 unfold Plain at h
 cases hf:P.funcs[f]? with
 |none=>simp[hf] at h
 |some fn=>
  simp only[hf,Bool.and_eq_true,bne_iff_ne,ne_eq] at h
  have hb:¬ fn.body=none:=by intro hb;simp[hb] at h
  simp[callFunc,Result.andThen,hf,h.1,hb]
theorem CallF.callV {P:Program} {G:GT} {f:FuncId} {first cap args:List AV} {H:HM} {K:ARes->HM->Prop} (hp:Plain P f=true) (h:CallF P G f (first++args++cap) H K) :
  CallV P G (.func (.func f) first cap) args H K:=by
 intro w fv vs h1 h2 h3
 cases h1 with
 |func hf hc=>
  rename_i fs cs
  have:=h w (fs++vs++cs) ((hf.append h2).append hc) h3
  simp only[Deferred.ofValue,Sem.run_bind,Sem.run_pure,Result.andThen,invoke,run_callFunc hp,NUpon]
  simpa using this
inductive ADef where
 |mark (b:Nat)
 |call (f:AV) (args:List AV)
structure AS where
 tmps:Nat->AV
 H:HM
 defs:List ADef
def upd (f:Nat->AV) (i:Nat) (v:AV):Nat->AV:=fun k=>if k=i then v else f k
def AS.put (s:AS) (d:Option Nat) (v:AV) (H:HM):AS:=⟨match d with|some i=>upd s.tmps i v|none=>s.tmps,H,s.defs⟩
def cst1:Value->AV
 |.slice none 0 0=>.nil0
 |v=>.val v
def cst:Value->AV
 |.slice none 0 0=>.nil0
 |.agg cs=>.agg (cs.toList.map cst1)
 |v=>.val v
def cstOk1:Value->Bool
 |.string s=>decide (s.size<=lim)
 |.agg _ | .tuple _=>false
 |_=>true
def cstOk:Value->Bool
 |.agg cs=>cs.toList.all cstOk1
 |.tuple _=>true
 |v=>cstOk1 v
def AS.eval (G:GT) (s:AS):Operand->AV
 |.tmp t=>s.tmps t
 |.const v=>cst v
 |.global g=>match G g with|some cs=>.ref cs|none=>.val (.pointer (some ⟨g,0,none⟩))
 |.func f=>.fn f
def RepDef (B:Nat) (H:HM) (w:World):ADef->Deferred->Prop
 |.mark b,d=>d={ target:=.collected b,args := #[] }/\w.heap[b]?=some (.deferred (some []))/\H b=none/\B<=b
 |.call f args,d=>∃ fn first cap vf vc va,f=.func fn first cap/\RepL (Imm H w) w first vf/\RepL (Imm H w) w cap vc/\RepL (Imm H w) w args va/\d={ target:=.fn fn vc.toArray,args:=(vf++va).toArray }
inductive RepDs (B:Nat) (H:HM) (w:World):List ADef->List Deferred->Prop
 |nil:RepDs B H w [] []
 |cons {a d as ds} (hn:∀ b,a=.mark b->.mark b∉as) (h:RepDef B H w a d) (hs:RepDs B H w as ds):RepDs B H w (a::as) (d::ds)
theorem RepDs.evo {B:Nat} {H H':HM} {w w':World} (he:Evo H w H' w'):∀ {as:List ADef} {ds:List Deferred},RepDs B H w as ds->RepDs B H' w' as ds
 |_,_,.nil=>.nil
 |_,_,.cons (a:=.mark b) hn h hs=>by
  obtain ⟨h1,h2,h3,h4⟩:=h
  have hi:Imm H w b:=⟨(Array.getElem?_eq_some_iff.1 h2).1,h3⟩
  exact .cons hn ⟨h1,(he.same b hi).trans h2,(he.imm b hi).2,h4⟩ (hs.evo he)
 |_,_,.cons (a:=.call f args) hn h hs=>by
  obtain ⟨fn,first,cap,vf,vc,va,h1,h2,h3,h4,h5⟩:=h
  exact .cons hn ⟨fn,first,cap,vf,vc,va,h1,he.repL h2,he.repL h3,he.repL h4,h5⟩ (hs.evo he)
structure Sim (G:GT) (n B:Nat) (s:AS) (a:Act) (w:World):Prop where
 size:a.tmps.size=n
 tmp:∀ t,Rep (Imm s.H w) w (s.tmps t) (a.tmps.getD t undef)
 st:St G s.H w
 defs:RepDs B s.H w s.defs a.defers
 big:B<=w.heap.size
theorem Y12 (I:Nat->Prop) (w:World):Rep I w AV.unit undef:=.val _ trivial
theorem rep_cst {I:Nat->Prop} {w:World} {v:Value} (h:cstOk v=true):Rep I w (cst v) v:=by
 have one:∀ u:Value,cstOk1 u=true->okV u/\u.oneCell'=true:=by
  intro u hu
  cases u<;>simp_all[cstOk1,okV,Value.oneCell']
 have one':∀ u:Value,cstOk1 u=true->Rep I w (cst1 u) u:=by
  intro u hu
  unfold cst1
  split
  ·exact .nil0 _
  ·exact .val _ (one u hu).1
 unfold cst
 split
 ·exact .nil0 _
 ·rename_i cs
  have hall:∀ u∈cs.toList,cstOk1 u=true:=List.all_eq_true.1 h
  have:cs=cs.toList.toArray:=by simp
  conv=>rhs;rw[this]
  refine .agg (fun u hu=>(one u (hall u hu)).2) ?_
  have:=RepL.map_ (I:=I) (w:=w) cst1 (fun u=>u) cs.toList (fun u hu=>one' u (hall u hu))
  simpa using this
 ·rename_i h1 h2
  refine .val _ ?_
  cases v with
  |agg cs=>exact absurd rfl (h2 cs)
  |string s=>exact (of_decide_eq_true (p:=s.size<=lim) h)
  |_=>trivial
def opndOk:Operand->Bool
 |.const v=>cstOk v
 |_=>true
theorem Sim.eval {G:GT} {n B:Nat} {s:AS} {a:Act} {w:World} (h:Sim G n B s a w) {x:Operand} (hx:opndOk x=true):Rep (Imm s.H w) w (s.eval G x) (a.eval x):=by
 cases x with
 |tmp t=>exact h.tmp t
 |const v=>exact rep_cst hx
 |global g=>
  simp only[AS.eval,Act.eval]
  split
  ·exact h.st.globr ‹_›
  ·exact .val _ trivial
 |func f=>exact .func .nil .nil
theorem Sim.put {G:GT} {n B:Nat} {s:AS} {a:Act} {w w':World} {H':HM} {av:AV} {v:Value} {d:Option Nat} (h:Sim G n B s a w) (he:Evo s.H w H' w') (hst:St G H' w')
  (hv:Rep (Imm H' w') w' av v) (hd:∀ i,d=some i->i<n):Sim G n B (s.put d av H') (a.put d v) w':=by
 refine ⟨?_,fun t=>?_,hst,?_,Nat.le_trans h.big he.size⟩
 ·cases d<;>simp[Act.put,h.size]
 ·cases d with
  |none=>exact he.rep (h.tmp t)
  |some i=>
   have hi:=hd i rfl
   simp only[AS.put,Act.put,upd]
   split
   ·rename_i e
    subst e
    have:(a.tmps.setIfInBounds t v).getD t undef=v:=by simp[Array.getD_eq_getD_getElem?,h.size,hi]
    rw[this];exact hv
   ·rename_i e
    have:(a.tmps.setIfInBounds i v).getD t undef=a.tmps.getD t undef:=by
     simp[Array.getD_eq_getD_getElem?,Array.getElem?_setIfInBounds_ne (Ne.symm e)]
    rw[this];exact he.rep (h.tmp t)
 ·have:(a.put d v).defers=a.defers:=by cases d<;>rfl
  rw[this];exact h.defs.evo he
inductive AX where
 |normal
 |exit (id:Nat)
 |goto (l:Nat)
 |ret
 |pan (a:AV)
def XRel (I:Nat->Prop) (w:World):AX->Exit->Prop
 |.normal,.normal=>True
 |.exit i,.exit j=>i=j
 |.goto i,.goto j=>i=j
 |.ret,.ret=>True
 |.pan a,.panic chain=>∃ v,chain=[{ v,recovered:=false }]/\Rep I w a v
 |_,_=>False
def PostW (G:GT) (n B:Nat) (H0:HM) (w0:World) (Q:AX->AS->Prop) (e:Exit) (a':Act) (w':World):Prop:=
 ∃ x s',Q x s'/\XRel (Imm s'.H w') w' x e/\Sim G n B s' a' w'/\Evo H0 w0 s'.H w'
def dstOk (n:Nat):Option Nat->Bool
 |some d=>decide (d<n)
 |none=>true
def operOk (n:Nat) (o:Oper):Bool:=dstOk n o.dst&&o.op.operands.all opndOk
def cok (n:Nat):Code->Bool
 |.region _ ops _=>ops.all (operOk n)
 |.seq a b=>cok n a&&cok n b
 |.cond c a b=>opndOk c&&cok n a&&cok n b
 |.block _ c | .loop c | .scope c=>cok n c
 |.rangeFunc f ps a b=>opndOk f&&ps.all (fun t=>decide (t<n))&&cok n a&&cok n b
 |_=>true
def VW (P:Program) (G:GT) (n:Nat) (r:Option Nat) (c:Code) (Q:AX->AS->Prop) (s:AS):Prop:=
 cok n c=true->∀ B a w,Sim G n B s a w->c.wpIn (W r) 0 P (PostW G n B s.H w Q) a w
section
variable {P:Program} {G:GT} {n B:Nat} {r:Option Nat} {Q Q':AX->AS->Prop} {s:AS}
theorem PostW.mono {H0:HM} {w0:World} {e:Exit} {a':Act} {w':World} (h:PostW G n B H0 w0 Q e a' w') (hq:∀ x s,Q x s->Q' x s):PostW G n B H0 w0 Q' e a' w':=
 let ⟨x,s',q,r⟩:=h;⟨x,s',hq _ _ q,r⟩
theorem VW.mono {c:Code} (h:VW P G n r c Q s) (hq:∀ x s,Q x s->Q' x s):VW P G n r c Q' s:=
 fun hc B a w hs=>wpIn_mono (h hc B a w hs) fun _ _ _ p=>p.mono hq
theorem PostW.of {H0:HM} {w0 w:World} {a:Act} {x:AX} {e:Exit} (hq:Q x s) (hx:XRel (Imm s.H w) w x e) (hs:Sim G n B s a w) (he:Evo H0 w0 s.H w):PostW G n B H0 w0 Q e a w:=⟨x,s,hq,hx,hs,he⟩
theorem G10 (h:Q .normal s):VW P G n r .skip Q s:=fun _ B a w hs=>wpIn_skip (.of h trivial hs (Evo.refl _ _))
theorem VW_label {l:Nat} (h:Q .normal s):VW P G n r (.label l) Q s:=fun _ B a w hs=>wpIn_label (.of h trivial hs (Evo.refl _ _))
theorem L11 {id:Nat} (h:Q (.exit id) s):VW P G n r (.exit id) Q s:=fun _ B a w hs=>wpIn_exit (.of h rfl hs (Evo.refl _ _))
theorem VW_goto {l:Nat} (h:Q (.goto l) s):VW P G n r (.goto l) Q s:=fun _ B a w hs=>wpIn_goto (.of h rfl hs (Evo.refl _ _))
theorem L10 (h:Q .ret s):VW P G n r .ret Q s:=fun _ B a w hs=>wpIn_ret (.of h trivial hs (Evo.refl _ _))
def AX.then (K:AS->Prop) (Q:AX->AS->Prop):AX->AS->Prop
 |.normal,s=>K s
 |x,s=>Q x s
theorem I10 {x y:Code} (h:VW P G n r x (AX.then (fun s'=>VW P G n r y Q s') Q) s):VW P G n r (.seq x y) Q s:=by
 intro hc B a w hs
 simp only[cok,Bool.and_eq_true] at hc
 refine wpIn_seq (wpIn_mono (h hc.1 B a w hs) ?_)
 rintro e a' w' ⟨x,s',q,hx,hs',he⟩
 cases e with
 |normal=>
  cases x with
  |normal=>
   refine wpIn_mono (q hc.2 B a' w' hs') ?_
   rintro e a'' w'' ⟨x,s'',q',hx',hs'',he'⟩
   exact ⟨x,s'',q',hx',hs'',he.trans he'⟩
  |_=>exact hx.elim
 |_=>
  cases x with
  |normal=>exact hx.elim
  |_=>first|exact ⟨_,s',q,hx,hs',he⟩|exact hx.elim
theorem VW_cond {c:Operand} {x y:Code} {t:Bool} (hc:s.eval G c=.val (.bool t)) (h1:t=true->VW P G n r x Q s) (h2:t=false->VW P G n r y Q s):VW P G n r (.cond c x y) Q s:=by
 intro hk B a w hs
 simp only[cok,Bool.and_eq_true] at hk
 have:=hs.eval hk.1.1
 rw[hc] at this
 refine wpIn_cond (t:=t) this.val_eq ?_
 cases t with
 |true=>exact h1 rfl hk.1.2 B a w hs
 |false=>exact h2 rfl hk.2 B a w hs
def AX.inBlock (id:Nat) (Q:AX->AS->Prop):AX->AS->Prop
 |.exit j,s=>if j=id then Q .normal s else Q (.exit j) s
 |x,s=>Q x s
theorem J10 {id:Nat} {c:Code} (h:VW P G n r c (AX.inBlock id Q) s):VW P G n r (.block id c) Q s:=by
 intro hc B a w hs
 refine wpIn_block (wpIn_mono (h hc B a w hs) ?_)
 rintro e a' w' ⟨x,s',q,hx,hs',he⟩
 cases e with
 |exit j=>
  cases x with
  |exit i=>
   obtain rfl:i=j:=hx
   simp only[AX.inBlock] at q
   simp only[Exit.inBlock]
   split
   ·rw[if_pos ‹_›] at q;exact ⟨.normal,s',q,trivial,hs',he⟩
   ·rw[if_neg ‹_›] at q;exact ⟨.exit i,s',q,rfl,hs',he⟩
  |_=>exact hx.elim
 |_=>cases x<;>first|exact hx.elim|exact ⟨_,s',q,hx,hs',he⟩
theorem VW_loop {c:Code} (Inv:AS->Prop) (μ:AS->Nat) (h0:Inv s) (round:∀ s,Inv s->VW P G n r c (AX.then (fun s'=>Inv s'/\μ s'<μ s) Q) s):VW P G n r (.loop c) Q s:=by
 intro hc B a w hs b k cs hro hb hr
 have key:∀ j s a w,μ s=j->Inv s->Sim G n B s a w ->
   ∃ e a' w',PostW G n B s.H w Q e a' w'/\ArrivesIn (Machine.fenced P (W r)) P (lone (b.atR a (.code c::.inLoop c::k)) cs w) b k cs e a' w':=by
  intro j
  induction j using Nat.strongRecOn with
  |_ j ih=>
   intro s a w hj hi hs
   obtain ⟨e,a₁,w₁,⟨x,s₁,hq,hx,hs₁,he⟩,harr⟩:=round s hi hc B a w hs b (.inLoop c::k) cs hro hb hr
   cases e with
   |normal=>
    cases x with
    |normal=>
     obtain ⟨hI₁,hlt⟩:=hq
     obtain ⟨e₂,a₂,w₂,⟨x₂,s₂,hq₂,hx₂,hs₂,he₂⟩,harr₂⟩:=ih (μ s₁) (hj▸hlt) s₁ a₁ w₁ rfl hI₁ hs₁
     exact ⟨e₂,a₂,w₂,⟨x₂,s₂,hq₂,hx₂,hs₂,he.trans he₂⟩,.of_steps (StepsIn.trans harr (.one (fenced_calm hb hr rfl) stepR_inLoop)) harr₂⟩
    |_=>exact hx.elim
   |exit id=>
    refine ⟨_,a₁,w₁,?_,.pass (x:=.inLoop c) rfl (fun _ _=>.inl (by simp)) harr⟩
    cases x<;>first|exact hx.elim|exact ⟨_,s₁,hq,hx,hs₁,he⟩
   |goto l=>
    refine ⟨_,a₁,w₁,?_,.pass (x:=.inLoop c) rfl (fun _ _=>.inl (by simp)) harr⟩
    cases x<;>first|exact hx.elim|exact ⟨_,s₁,hq,hx,hs₁,he⟩
   |ret=>
    refine ⟨_,a₁,w₁,?_,.pass (x:=.inLoop c) rfl (fun _ _=>.inl (by simp)) harr⟩
    cases x<;>first|exact hx.elim|exact ⟨_,s₁,hq,hx,hs₁,he⟩
   |panic ch=>
    refine ⟨_,a₁,w₁,?_,.pass (x:=.inLoop c) rfl (fun _ _=>.inl (by simp)) harr⟩
    cases x<;>first|exact hx.elim|exact ⟨_,s₁,hq,hx,hs₁,he⟩
   |outgrown=>cases x<;>exact hx.elim
 obtain ⟨e,a',w',hq,harr⟩:=key _ s a w rfl h0 hs
 exact ⟨e,a',w',hq,.of_steps (.one (fenced_calm hb hr rfl) stepR_loop) harr⟩
theorem VW_view {c:Code} {s':AS} (hv:∀ B a w,Sim G n B s a w->Sim G n B s' a w/\Evo s.H w s'.H w) (h:VW P G n r c Q s'):VW P G n r c Q s:=by
 intro hc B a w hs
 obtain ⟨hs',he⟩:=hv B a w hs
 refine wpIn_mono (h hc B a w hs') ?_
 rintro e a' w' ⟨x,s'',q,hx,hs'',he'⟩
 exact ⟨x,s'',q,hx,hs'',he.trans he'⟩
def VX (P:Program) (G:GT) (ρ:Operand->AV) (H:HM) (o:Oper) (K:ARes->HM->Prop):Prop:=
 ∀ ρc w,(∀ x∈o.op.operands,Rep (Imm H w) w (ρ x) (ρc x))->St G H w ->
  NUpon P (Out G H w fun a=>K (.ret a)) (Out G H w fun a=>K (.pan a)) ((execOp ρc o).run P w)
theorem VX.mono {ρ:Operand->AV} {H:HM} {o:Oper} {K K':ARes->HM->Prop} (h:VX P G ρ H o K) (hk:∀ r H',K r H'->K' r H'):VX P G ρ H o K':=
 fun ρc w h1 h2=>(h ρc w h1 h2).mono (fun _ _ o=>o.mono fun _ _=>hk _ _) (fun _ _ o=>o.mono fun _ _=>hk _ _)
theorem VX.congr {ρ ρ':Operand->AV} {H:HM} {o:Oper} {K:ARes->HM->Prop} (h:VX P G ρ H o K) (he:∀ x∈o.op.operands,ρ' x=ρ x):VX P G ρ' H o K:=
 fun ρc w h1 h2=>h ρc w (fun x hx=>he x hx▸h1 x hx) h2
def yieldA (ops:Array Oper) (f:Nat->AV) (j:Nat):Option Bool:=
 match (ops[j]?).bind (·.dst) with
 |some d=>match f d with
  |.val (.bool b)=>some b
  |_=>none
 |none=>none
def wantA (ops:Array Oper) (o:Oper) (f:Nat->AV):Bool:=
 match o.guard with
 |none=>true
 |some (j,want)=>yieldA ops f j==some want
def VOp (P:Program) (G:GT) (ops:Array Oper) (Q:AX->AS->Prop) (o:Oper) (K:AS->Prop) (s:AS):Prop:=
 if wantA ops o s.tmps then VX P G (s.eval G) s.H o (fun
  |.ret v,H'=>K (s.put o.dst v H')
  |.pan v,H'=>Q (.pan v) { s with H:=H' })
 else K (s.put o.dst .unit s.H)
def VOps (P:Program) (G:GT) (ops:Array Oper) (Q:AX->AS->Prop):List Oper->AS->Prop
 |[],s=>Q .normal s
 |o::rest,s=>VOp P G ops Q o (VOps P G ops Q rest) s
theorem VOp.mono {ops:Array Oper} {o:Oper} {K K':AS->Prop} (h:VOp P G ops Q o K s) (hk:∀ s,K s->K' s):VOp P G ops Q o K' s:=by
 unfold VOp at *
 split
 ·rw[if_pos ‹_›] at h
  exact h.mono fun x H' hx=>by cases x<;>first|exact hk _ hx|exact hx
 ·rw[if_neg ‹_›] at h;exact hk _ h
theorem rep_bool {I:Nat->Prop} {w:World} {a:AV} {b:Bool} (h:Rep I w a (.bool b)):a=.val (.bool b):=by cases h;rfl
theorem yieldA_eq {ops:Array Oper} {a:Act} {w:World} (hs:Sim G n B s a w) (j:Nat):yielded ops a.tmps j=yieldA ops s.tmps j:=by
 unfold yielded yieldA
 cases hd:(ops[j]?).bind (·.dst) with
 |none=>rfl
 |some d=>
  have ht:=hs.tmp d
  simp only[Option.bind_some]
  rw[Array.getD_eq_getD_getElem?] at ht
  cases hv:a.tmps[d]? with
  |none=>
   rw[hv] at ht
   simp only[Option.getD_none] at ht
   cases hf:s.tmps d with
   |val v=>rw[hf] at ht;have:=ht.val_eq;subst this;rfl
   |_=>rfl
  |some v=>
   rw[hv] at ht
   simp only[Option.getD_some] at ht
   cases v with
   |bool b=>have:=rep_bool ht;simp[this]
   |_=>
    cases hf:s.tmps d with
    |val u=>rw[hf] at ht;have:=ht.val_eq;subst this;rfl
    |_=>rfl
theorem wantA_eq {ops:Array Oper} {a:Act} {w:World} (hs:Sim G n B s a w) (o:Oper):Region.wanted o (yielded ops a.tmps)=wantA ops o s.tmps:=by
 unfold Region.wanted wantA
 cases o.guard with
 |none=>rfl
 |some g=>obtain ⟨j,want⟩:=g;simp only[yieldA_eq hs]
theorem callsIn_W {f:FuncId} {args:Array Value} {w:World} {R:Ending->World->Prop}:CallsIn wide 0 P f args w R↔CallsIn (W r) 0 P f args w R:=Iff.rfl
theorem roundIn_W {l:Nat} {f:FuncId} {tmps:Array Value} {x y:Code} {w:World} {R:Ending->World->Prop}:RoundIn wide 0 P l f tmps x y w R↔RoundIn (W r) 0 P l f tmps x y w R:=Iff.rfl
theorem NUpon.uponIn {K Kp:Value->World->Prop} {o:Oper} {a:Act} {next:Act->World->Prop} {QC:Exit->Act->World->Prop} {res:Result Next} (h:NUpon P K Kp res)
  (hk:∀ v w,K v w->next (a.put o.dst v) w) (hp:∀ v w,Kp v w->QC (.panic [{ v,recovered:=false }]) a w):o.uponIn (W r) 0 P a next QC res:=by
 cases res with
 |halt x w'=>cases x<;>simp only[NUpon,Oper.uponIn] at h ⊢ <;> exact hp _ _ h
 |ok x w'=>
  cases x<;>simp only[NUpon,Oper.uponIn] at h ⊢
  case value=>exact hk _ _ h
  case skip=>exact hk _ _ h
  case enter=>
   refine ⟨fun h=>by simp[W,wide,Fence.wide] at h,CallsIn.mono (callsIn_W.1 h) fun e w'' he=>?_⟩
   cases e with
   |returned v=>exact hk _ _ he
   |panicked c=>obtain ⟨v,rfl,e2⟩:=he;exact hp _ _ e2
   |outgrown=>exact he.elim
  case round=>
   refine ⟨fun h=>by simp[W,wide,Fence.wide] at h,RoundIn.mono (roundIn_W.1 h) fun e w'' he=>?_⟩
   cases e with
   |returned v=>exact hk _ _ he
   |panicked c=>obtain ⟨v,rfl,e2⟩:=he;exact hp _ _ e2
   |outgrown=>exact he.elim
theorem NUpon.notDefer {K Kp:Value->World->Prop} {ρc:Operand->Value} {o:Oper} {w:World} (h:NUpon P K Kp ((execOp ρc o).run P w)):∀ c,o.op≠.defer c:=by
 intro c e
 simp only[execOp,e,Sem.run_bind] at h
 cases hr:(resolve ρc c o.type).run P w with
 |halt x w'=>
  have:∀ v,x≠.panic v:=by
   intro v hx;subst hx
   cases hc:c.callee<;>simp[resolve,hc,Deferred.ofValue] at hr
   split at hr<;>simp at hr
  rw[hr] at h
  cases x<;>simp[Result.andThen,NUpon] at h
  exact this _ rfl
 |ok d w'=>rw[hr] at h;simp[Result.andThen,NUpon] at h
theorem VX.wpIn {o:Oper} {K:ARes->HM->Prop} {a:Act} {w:World} {next:Act->World->Prop} {QC:Exit->Act->World->Prop} (h:VX P G (s.eval G) s.H o K) (hs:Sim G n B s a w)
  (ho:operOk n o=true)
  (hk:∀ v H' av w',K (.ret av) H'->Sim G n B (s.put o.dst av H') (a.put o.dst v) w'->Evo s.H w H' w'->next (a.put o.dst v) w')
  (hp:∀ v H' av w',K (.pan av) H'->Rep (Imm H' w') w' av v->Sim G n B { s with H:=H' } a w'->Evo s.H w H' w'->QC (.panic [{ v,recovered:=false }]) a w') :
  o.wpIn (W r) 0 P a w next QC:=by
 simp only[operOk,Bool.and_eq_true] at ho
 have h1:=h a.eval w (fun x hx=>hs.eval (by have:=Array.all_eq_true_iff_forall_mem.1 ho.2 x hx;exact this)) hs.st
 refine ⟨fun _ _=>trivial,?_⟩
 rw[Oper.semAt_eq _ _ _ h1.notDefer]
 refine h1.uponIn (fun v w' hv=>?_) (fun v w' hv=>?_)
 ·obtain ⟨av,H',hk',hr,hst,he⟩:=hv
  refine hk v H' av w' hk' (hs.put he hst hr fun i hi=>?_) he
  simpa[dstOk,hi] using ho.1
 ·obtain ⟨av,H',hk',hr,hst,he⟩:=hv
  exact hp v H' av w' hk' hr ⟨hs.size,fun t=>he.rep (hs.tmp t),hst,hs.defs.evo he,Nat.le_trans hs.big he.size⟩ he
theorem VOp.wpIn {ops:Array Oper} {o:Oper} {K:AS->Prop} {a:Act} {w w0:World} {H0:HM} {i:Nat} {next:Act->World->Prop} (h:VOp P G ops Q o K s) (hi:ops[i]?=some o) (hs:Sim G n B s a w)
  (he:Evo H0 w0 s.H w) (ho:operOk n o=true) (hk:∀ s' a' w',K s'->Sim G n B s' a' w'->Evo H0 w0 s'.H w'->next a' w'):wpOpIn (W r) 0 P ops (PostW G n B H0 w0 Q) i next a w:=by
 unfold wpOpIn
 rw[hi]
 simp only[wantA_eq hs]
 unfold VOp at h
 split
 ·rw[if_pos ‹_›] at h
  exact h.wpIn hs ho (fun v H' av w' k hs' he'=>hk _ _ _ k hs' (he.trans he')) (fun v H' av w' k hr hs' he'=>⟨.pan av,_,k,⟨v,rfl,hr⟩,hs',he.trans he'⟩)
 ·rw[if_neg ‹_›] at h
  refine ⟨fun _ _=>trivial,hk _ _ _ h (hs.put (Evo.refl _ _) hs.st (Y12 _ _) fun i hi=>?_) he⟩
  simp only[operOk,Bool.and_eq_true] at ho
  simpa[dstOk,hi] using ho.1
theorem VOps.wpIn {ops:Array Oper} {H0:HM} {w0:World} (ho:∀ o∈ops,operOk n o=true):∀ (l:List Oper) (k:Nat) (s:AS) (a:Act) (w:World),(∀ j,l[j]?=ops[k+j]?) ->
  VOps P G ops Q l s->Sim G n B s a w->Evo H0 w0 s.H w->wpOpsIn (W r) 0 P ops (PostW G n B H0 w0 Q) (List.range' k l.length) a w
 |[],k,s,a,w,hl,h,hs,he=>⟨.normal,s,h,trivial,hs,he⟩
 |o::rest,k,s,a,w,hl,h,hs,he=>by
  have h0:ops[k]?=some o:=by have:=hl 0;simpa using this.symm
  rw[List.length_cons,List.range'_succ,wpOpsIn_cons]
  refine VOp.wpIn h h0 hs he (ho o (Array.mem_of_getElem? h0)) fun s' a' w' k' hs' he'=>?_
  exact VOps.wpIn ho rest (k+1) s' a' w' (fun j=>by have:=hl (j+1);simp at this;rw[this];congr 1;omega) k' hs' he'
theorem VW_region {id:Nat} {ops:Array Oper} (h:VOps P G ops Q ops.toList s):VW P G n r (.region id ops false) Q s:=by
 intro hc B a w hs
 refine wpIn_region ?_
 have:=VOps.wpIn (r:=r) (H0:=s.H) (w0:=w) (Array.all_eq_true_iff_forall_mem.1 hc) ops.toList 0 s a w (fun j=>by simp) h hs (Evo.refl _ _)
 simpa[List.range_eq_range'] using this
def VAny (P:Program) (G:GT) (ops:Array Oper) (Q:AX->AS->Prop):Nat->Array Bool->AS->Prop
 |0,listed,s=>Region.ready .any ops listed=[]/\Q .normal s
 |fuel+1,listed,s=>(Region.ready .any ops listed=[]->Q .normal s) /\
  ∀ i∈Region.ready .any ops listed,∀ o,ops[i]?=some o->VOp P G ops Q o (VAny P G ops Q fuel (listed.setIfInBounds i true)) s
theorem VAny.wpIn {ops:Array Oper} {H0:HM} {w0:World} (ho:∀ o∈ops,operOk n o=true):∀ (fuel:Nat) (listed:Array Bool) (s:AS) (a:Act) (w:World),
  VAny P G ops Q fuel listed s->Sim G n B s a w->Evo H0 w0 s.H w->wpAnyIn (W r) 0 P .any ops (PostW G n B H0 w0 Q) fuel listed a w
 |0,listed,s,a,w,h,hs,he=>⟨h.1,.normal,s,h.2,trivial,hs,he⟩
 |fuel+1,listed,s,a,w,h,hs,he=>by
  refine ⟨fun hr=>⟨.normal,s,h.1 hr,trivial,hs,he⟩,fun i hi=>?_⟩
  have hlt:i<ops.size:=by
   have:=List.mem_filter.1 hi
   simpa using this.1
  have h0:ops[i]?=some ops[i]:=by simp[hlt]
  exact VOp.wpIn (h.2 i hi _ h0) h0 hs he (ho _ (Array.getElem_mem hlt)) fun s' a' w' k' hs' he'=>VAny.wpIn ho fuel _ s' a' w' k' hs' he'
theorem VW_region_any {id:Nat} {ops:Array Oper} (hm:P.follows .mixedOrders=true) (h:VAny P G ops Q ops.size (Array.replicate ops.size false) s):VW P G n r (.region id ops true) Q s:=by
 intro hc B a w hs
 refine wpIn_region_any hm ?_
 have hd:Sim G n B s a { w with drawn:=w.drawn+1 }:=⟨hs.size,fun t=>(hs.tmp t).keep (fun _ h=>h) (fun _ _=>rfl),
  ⟨fun b o e=>(hs.st.obj b o e).keep (fun _ h=>h) (fun _ _=>rfl) rfl,fun g cs e=>(hs.st.glob g cs e).map (fun h _=>h) (fun _ _=>rfl) fun hr=>hr.keep (fun _ h=>h) fun _ _=>rfl⟩,RepDs.evo (H:=s.H) (w:=w) (H':=s.H) (w':={ w with drawn:=w.drawn+1 }) ⟨rfl,rfl,rfl,Nat.le_refl _,fun b h=>⟨h.2,rfl⟩⟩ hs.defs,hs.big⟩
 exact VAny.wpIn (Array.all_eq_true_iff_forall_mem.1 hc) _ _ s a _ h hd ⟨rfl,rfl,rfl,Nat.le_refl _,fun b h=>⟨h.2,rfl⟩⟩
def VQuiet (P:Program) (G:GT) (ρ:Operand->AV) (H:HM) (o:Oper) (v:AV):Prop:=∀ K:ARes->HM->Prop,K (.ret v) H->VX P G ρ H o K
def VQ (P:Program) (G:GT) (ops:Array Oper):List Oper->AS->(AS->Prop)->Prop
 |[],s,K=>K s
 |o::rest,s,K=>if wantA ops o s.tmps then ∃ v,VQuiet P G (s.eval G) s.H o v/\VQ P G ops rest (s.put o.dst v s.H) K else VQ P G ops rest (s.put o.dst .unit s.H) K
def waits (ops:Array Oper):Nat->Nat->Nat->Bool
 |0,_,_=>false
 |f+1,i,j=>match ops[i]? with
  |some o=>o.after.any fun e=>Region.binds .any e&&(e.on==j||waits ops f e.on j)
  |none=>false
def headOk (ops:Array Oper) (k:Nat):Bool:=
 decide (k<=ops.size) &&
 (List.range k).all (fun i=>match ops[i]? with
  |some o=>o.after.all (fun e=>!Region.binds .any e||decide (e.on<i)) &&
   (List.range k).all (fun j=>match ops[j]? with
    |some p=>match p.dst with
     |some d=>(!(o.looksAt ops).contains d||(decide (j<i)&&waits ops ops.size i j))&&(i==j||o.dst != some d)
     |none=>true
    |none=>true)
  |none=>false) &&
 (List.range ops.size).all (fun i=>decide (i<k)||(List.range k).all (fun j=>waits ops ops.size i j))
def firstK (m k:Nat):Array Bool:=(Array.range m).map fun i=>decide (i<k)
theorem VAny.succ {ops:Array Oper}:∀ (f:Nat) (listed:Array Bool) (s:AS),VAny P G ops Q f listed s->VAny P G ops Q (f+1) listed s
 |0,listed,s,h=>⟨fun _=>h.2,fun i hi=>by rw[h.1] at hi;cases hi⟩
 |f+1,listed,s,h=>⟨h.1,fun i hi o ho=>(h.2 i hi o ho).mono fun s'=>VAny.succ f _ s'⟩
theorem VAny.le {ops:Array Oper} {f f':Nat} {listed:Array Bool} {s:AS} (h:VAny P G ops Q f listed s) (hf:f<=f'):VAny P G ops Q f' listed s:=by
 induction hf with
 |refl=>exact h
 |step _ ih=>exact VAny.succ _ _ _ ih
def unl (L:Nat->Bool):Nat->Nat
 |0=>0
 |k+1=>unl L k+if L k then 0 else 1
theorem unl_congr {L L':Nat->Bool}:∀ k,(∀ j,j<k->L' j=L j)->unl L' k=unl L k
 |0,_=>rfl
 |k+1,h=>by simp only[unl];rw[unl_congr k fun j hj=>h j (by omega),h k (by omega)]
theorem unl_set {L L':Nat->Bool} {i:Nat} (hi:L i=false) (hi':L' i=true) (hne:∀ j,j≠i->L' j=L j):∀ k,i<k->unl L' k+1=unl L k
 |0,h=>by omega
 |k+1,h=>by
  simp only[unl]
  by_cases e:i=k
  ·subst e;rw[unl_congr i fun j hj=>hne j (by omega),hi,hi'];simp
  ·have:=unl_set hi hi' hne k (by omega);rw[hne k (Ne.symm e)];omega
theorem unl_zero {L:Nat->Bool}:∀ k,unl L k=0->∀ i,i<k->L i=true
 |0,_,i,h=>by omega
 |k+1,h,i,hi=>by
  simp only[unl] at h
  by_cases e:i=k
  ·subst e;cases hL:L i<;>simp_all
  ·exact unl_zero k (by omega) i (by omega)
theorem unl_pos {L:Nat->Bool}:∀ k,unl L k≠0->∃ i,i<k/\L i=false/\∀ j,j<i->L j=true
 |0,h=>absurd rfl h
 |k+1,h=>by
  by_cases h0:unl L k=0
  ·refine ⟨k,by omega,?_,unl_zero k h0⟩
   simp only[unl,h0] at h
   cases hL:L k<;>simp_all
  ·obtain ⟨i,h1,h2,h3⟩:=unl_pos k h0
   exact ⟨i,by omega,h2,h3⟩
def Ord (ops:Array Oper):List Oper->Prop
 |[]=>True
 |o::rest=>(∀ o'∈o::rest,∀ d,o'.dst=some d->d∉o.looksAt ops)/\(∀ o'∈rest,∀ d,o.dst=some d->o'.dst≠some d)/\Ord ops rest
def Yld (P:Program) (G:GT) (ops:Array Oper) (E:AS) (o:Oper):Prop:=
 (wantA ops o E.tmps=true/\∃ v,VQuiet P G (E.eval G) E.H o v/\∀ d,o.dst=some d->E.tmps d=v)\/(wantA ops o E.tmps=false/\∀ d,o.dst=some d->E.tmps d=.unit)
theorem W12 {ops:Array Oper} {o:Oper} {f g:Nat->AV} (h:∀ t∈o.looksAt ops,f t=g t):wantA ops o f=wantA ops o g:=by
 unfold wantA
 cases hg:o.guard with
 |none=>rfl
 |some x=>
  obtain ⟨j,want⟩:=x
  have:yieldA ops f j=yieldA ops g j:=by
   unfold yieldA
   cases hd:(ops[j]?).bind (·.dst) with
   |none=>rfl
   |some d=>simp only[];rw[h d (by simp[Oper.looksAt,hg,hd])]
  simp only[this]
theorem VQuiet.congr {ops:Array Oper} {s s':AS} {H:HM} {o:Oper} {v:AV} (h:VQuiet P G (s.eval G) H o v) (he:∀ t∈o.looksAt ops,s'.tmps t=s.tmps t):VQuiet P G (s'.eval G) H o v:=by
 intro K hk
 refine (h K hk).congr fun x hx=>?_
 cases x with
 |tmp t=>exact he t (List.mem_append_left _ (List.mem_filterMap.2 ⟨.tmp t,by simpa using hx,rfl⟩))
 |_=>rfl
theorem X11 {s:AS} {d:Option Nat} {v:AV} {H:HM} {t:Nat} (h:d≠some t):(s.put d v H).tmps t=s.tmps t:=by
 cases d with
 |none=>rfl
 |some i=>simp only[AS.put,upd];rw[if_neg];intro e;exact h (by rw[e])
theorem M13 {s:AS} {d:Nat} {v:AV} {H:HM}:(s.put (some d) v H).tmps d=v:=by simp[AS.put,upd]
theorem VQ_facts {ops:Array Oper} {K:AS->Prop}:∀ (l:List Oper) (s:AS),Ord ops l->VQ P G ops l s K ->
  ∃ E,K E/\E.H=s.H/\E.defs=s.defs/\(∀ t,(∀ o∈l,o.dst≠some t)->E.tmps t=s.tmps t)/\∀ o∈l,Yld P G ops E o
 |[],s,_,h=>⟨s,h,rfl,rfl,fun _ _=>rfl,fun _ h=>by cases h⟩
 |o::rest,s,ho,h=>by
  obtain ⟨h1,h2,h3⟩:=ho
  have look:∀ {E:AS} {v:AV},(∀ t,(∀ o∈rest,o.dst≠some t)->E.tmps t=(s.put o.dst v s.H).tmps t)->∀ t∈o.looksAt ops,E.tmps t=s.tmps t:=by
   intro E v hE t ht
   rw[hE t fun o' ho' e=>h1 o' (List.mem_cons_of_mem _ ho') t e ht]
   exact X11 fun e=>h1 o (by simp) t e ht
  have dst:∀ {E:AS} {v:AV},(∀ t,(∀ o∈rest,o.dst≠some t)->E.tmps t=(s.put o.dst v s.H).tmps t)->∀ d,o.dst=some d->E.tmps d=v:=by
   intro E v hE d hd
   rw[hE d fun o' ho'=>h2 o' ho' d hd,hd,M13]
  unfold VQ at h
  split at h
  ·rename_i hw
   obtain ⟨v,hv,h⟩:=h
   obtain ⟨E,k1,k2,k3,k4,k5⟩:=VQ_facts rest _ h3 h
   refine ⟨E,k1,k2,k3,fun t ht=>?_,fun o' ho'=>?_⟩
   ·rw[k4 t fun o' ho'=>ht o' (by simp[ho'])];exact X11 (ht o (by simp))
   ·rcases List.mem_cons.1 ho' with rfl|ho'
    ·refine .inl ⟨by rw[W12 (look k4)];exact hw,v,?_,dst k4⟩
     rw[show E.H=s.H from k2];exact hv.congr (look k4)
    ·exact k5 o' ho'
  ·rename_i hw
   obtain ⟨E,k1,k2,k3,k4,k5⟩:=VQ_facts rest _ h3 h
   refine ⟨E,k1,k2,k3,fun t ht=>?_,fun o' ho'=>?_⟩
   ·rw[k4 t fun o' ho'=>ht o' (by simp[ho'])];exact X11 (ht o (by simp))
   ·rcases List.mem_cons.1 ho' with rfl|ho'
    ·exact .inr ⟨by rw[W12 (look k4)];simpa using hw,dst k4⟩
    ·exact k5 o' ho'
structure HeadFacts (ops:Array Oper) (k:Nat):Prop where
 le:k<=ops.size
 edge:∀ i,i<k->∀ o,ops[i]?=some o->∀ e∈o.after,Region.binds .any e=true->e.on<i
 look:∀ i j,i<k->j<k->∀ o p d,ops[i]?=some o->ops[j]?=some p->p.dst=some d->d∈o.looksAt ops->j<i/\waits ops ops.size i j=true
 uniq:∀ i j,i<k->j<k->∀ o p d,ops[i]?=some o->ops[j]?=some p->p.dst=some d->o.dst=some d->i=j
 tail:∀ i,k<=i->i<ops.size->∀ j,j<k->waits ops ops.size i j=true
theorem headFacts {ops:Array Oper} {k:Nat} (h:headOk ops k=true):HeadFacts ops k:=by
 simp only[headOk,Bool.and_eq_true,List.all_eq_true,List.mem_range,decide_eq_true_eq] at h
 obtain ⟨⟨h1,h2⟩,h3⟩:=h
 have both:∀ i j,i<k->j<k->∀ o p d,ops[i]?=some o->ops[j]?=some p->p.dst=some d ->
   ((o.looksAt ops).contains d=false\/(j<i/\waits ops ops.size i j=true))/\(i=j\/o.dst≠some d):=by
  intro i j hi hj o p d ho hp hd
  have:=h2 i hi
  simp only[ho,Bool.and_eq_true,List.all_eq_true,List.mem_range] at this
  have:=this.2 j hj
  simp only[hp,hd,Bool.and_eq_true,Bool.or_eq_true,Bool.not_eq_true',decide_eq_true_eq,beq_iff_eq,bne_iff_ne] at this
  exact this
 refine ⟨h1,?_,?_,?_,?_⟩
 ·intro i hi o ho e he hb
  have:=h2 i hi
  simp only[ho,Bool.and_eq_true] at this
  have:=Array.all_eq_true_iff_forall_mem.1 this.1 e he
  simpa[hb] using this
 ·intro i j hi hj o p d ho hp hd hl
  rcases (both i j hi hj o p d ho hp hd).1 with h|h
  ·exact absurd (List.contains_iff_mem.2 hl) (by rw[h];simp)
  ·exact h
 ·intro i j hi hj o p d ho hp hd hd'
  exact (both i j hi hj o p d ho hp hd).2.resolve_right fun h=>h hd'
 ·intro i hi hlt j hj
  have:=h3 i hlt
  simp only[Bool.or_eq_true,decide_eq_true_eq,List.all_eq_true,List.mem_range] at this
  exact this.resolve_left (by omega) j hj
theorem waits_listed {ops:Array Oper} {listed:Array Bool} (hcl:∀ i o,ops[i]?=some o->listed.getD i false=true->∀ e∈o.after,Region.binds .any e=true->listed.getD e.on false=true) :
  ∀ (f i j:Nat),waits ops f i j=true->(∀ o,ops[i]?=some o->∀ e∈o.after,Region.binds .any e=true->listed.getD e.on false=true)->listed.getD j false=true
 |0,_,_,h,_=>by simp[waits] at h
 |f+1,i,j,h,hi=>by
  unfold waits at h
  cases ho:ops[i]? with
  |none=>simp[ho] at h
  |some o=>
   simp only[ho,Array.any_eq_true'] at h
   obtain ⟨e,he,h⟩:=h
   simp only[Bool.and_eq_true,Bool.or_eq_true,beq_iff_eq] at h
   rcases h.2 with e1|e1
   ·exact e1▸hi o ho e he h.1
   ·exact waits_listed hcl f e.on j e1 fun o' ho' e' he' hb'=>hcl e.on o' ho' (hi o ho e he h.1) e' he' hb'
theorem ord_take {ops:Array Oper} {k:Nat} (hf:HeadFacts ops k):∀ (m i:Nat),i+m=k->Ord ops ((ops.toList.take k).drop i)
 |0,i,h=>by
  rw[List.drop_eq_nil_of_le (by simp;omega)];trivial
 |m+1,i,h=>by
  have hk:=hf.le
  have hlt:i<ops.size:=by omega
  have hd:(ops.toList.take k).drop i=ops[i]::(ops.toList.take k).drop (i+1):=by
   rw[List.drop_eq_getElem_cons (by simp;omega)]
   simp
  have mem:∀ (i:Nat) (o:Oper),o∈(ops.toList.take k).drop i->∃ j,i<=j/\j<k/\ops[j]?=some o:=by
   intro i o ho
   obtain ⟨j,hj⟩:=List.mem_iff_getElem?.1 ho
   rw[List.getElem?_drop,List.getElem?_take] at hj
   split at hj
   ·exact ⟨i+j,by omega,by assumption,by simpa using hj⟩
   ·cases hj
  have hi0:ops[i]?=some ops[i]:=by simp[hlt]
  rw[hd]
  refine ⟨fun o' ho' d hd' hl=>?_,fun o' ho' d hd' hd''=>?_,ord_take hf m (i+1) (by omega)⟩
  ·have:∃ j,i<=j/\j<k/\ops[j]?=some o':=mem i o' (by rw[hd];exact ho')
   obtain ⟨j,h1,h2,h3⟩:=this
   have:=(hf.look i j (by omega) h2 _ _ _ hi0 h3 hd' hl).1
   omega
  ·obtain ⟨j,h1,h2,h3⟩:=mem (i+1) o' ho'
   have:=hf.uniq i j (by omega) h2 _ _ _ hi0 h3 hd'' hd'
   omega
theorem VAny_head {ops:Array Oper} (k:Nat) (hk:headOk ops k=true)
  (h:VQ P G ops (ops.toList.take k) s (fun s1=>VAny P G ops Q (ops.size-k) (firstK ops.size k) s1)):VAny P G ops Q ops.size (Array.replicate ops.size false) s:=by
 have hf:=headFacts hk
 have ho:=ord_take hf k 0 (by omega)
 rw[List.drop_zero] at ho
 obtain ⟨E,e1,e2,e3,e4,e5⟩:=VQ_facts _ s ho h
 have yld:∀ i o,i<k->ops[i]?=some o->Yld P G ops E o:=by
  intro i o hi hio
  refine e5 o (List.mem_iff_getElem?.2 ⟨i,?_⟩)
  rw[List.getElem?_take,if_pos hi];simpa using hio
 have other:∀ t,(∀ j o,j<k->ops[j]?=some o->o.dst≠some t)->E.tmps t=s.tmps t:=by
  intro t ht
  refine e4 t fun o hm=>?_
  obtain ⟨j,hj⟩:=List.mem_iff_getElem?.1 hm
  rw[List.getElem?_take] at hj
  split at hj
  ·exact ht j o (by assumption) (by simpa using hj)
  ·cases hj
 have key:∀ (f:Nat) (listed:Array Bool) (sL:AS),listed.size=ops.size->unl (fun i=>listed.getD i false) k+(ops.size-k)<=f ->
   (∀ i,k<=i->listed.getD i false=false) ->
   (∀ i o,ops[i]?=some o->listed.getD i false=true->∀ e∈o.after,Region.binds .any e=true->listed.getD e.on false=true) ->
   sL.H=s.H->sL.defs=s.defs ->
   (∀ t,(∃ j o,j<k/\listed.getD j false=true/\ops[j]?=some o/\o.dst=some t)->sL.tmps t=E.tmps t) ->
   (∀ t,(∀ j o,j<k->listed.getD j false=true->ops[j]?=some o->o.dst≠some t)->sL.tmps t=s.tmps t) ->
   VAny P G ops Q f listed sL:=by
  intro f
  induction f with
  |zero=>
   intro listed sL hsz hu hlt hcl hH hD ht1 ht2
   have hu0:unl (fun i=>listed.getD i false) k=0:=by omega
   have hks:ops.size-k=0:=by omega
   have hall:=unl_zero k hu0
   have hL:listed=firstK ops.size k:=by
    refine Array.ext (by simp[firstK,hsz]) fun i h1 h2=>?_
    have hik:i<k:=by have:=hf.le;omega
    have:=hall i hik
    simp only[Array.getD_eq_getD_getElem?,Array.getElem?_eq_getElem h1,Option.getD_some] at this
    simp[firstK,this,hik]
   have hE:sL=E:=by
    obtain ⟨t1,H1,d1⟩:=sL
    obtain ⟨t2,H2,d2⟩:=E
    simp only at hH hD e2 e3 ht1 ht2 other
    subst hH hD e2 e3
    congr 1
    funext t
    by_cases hx:∃ j o,j<k/\ops[j]?=some o/\o.dst=some t
    ·obtain ⟨j,o,h1,h2,h3⟩:=hx
     exact ht1 t ⟨j,o,h1,hall j h1,h2,h3⟩
    ·rw[ht2 t fun j o h1 _ h2 h3=>hx ⟨j,o,h1,h2,h3⟩,other t fun j o h1 h2 h3=>hx ⟨j,o,h1,h2,h3⟩]
   rw[hL,hE]
   exact hks▸e1
  |succ f ih=>
   intro listed sL hsz hu hlt hcl hH hD ht1 ht2
   by_cases hu0:unl (fun i=>listed.getD i false) k=0
   ·have hall:=unl_zero k hu0
    have hL:listed=firstK ops.size k:=by
     refine Array.ext (by simp[firstK,hsz]) fun i h1 h2=>?_
     by_cases hik:i<k
     ·have:=hall i hik
      simp only[Array.getD_eq_getD_getElem?,Array.getElem?_eq_getElem h1,Option.getD_some] at this
      simp[firstK,this,hik]
     ·have:=hlt i (by omega)
      simp only[Array.getD_eq_getD_getElem?,Array.getElem?_eq_getElem h1,Option.getD_some] at this
      simp[firstK,this,hik]
    have hE:sL=E:=by
     obtain ⟨t1,H1,d1⟩:=sL
     obtain ⟨t2,H2,d2⟩:=E
     simp only at hH hD e2 e3 ht1 ht2 other
     subst hH hD e2 e3
     congr 1
     funext t
     by_cases hx:∃ j o,j<k/\ops[j]?=some o/\o.dst=some t
     ·obtain ⟨j,o,h1,h2,h3⟩:=hx
      exact ht1 t ⟨j,o,h1,hall j h1,h2,h3⟩
     ·rw[ht2 t fun j o h1 _ h2 h3=>hx ⟨j,o,h1,h2,h3⟩,other t fun j o h1 h2 h3=>hx ⟨j,o,h1,h2,h3⟩]
    rw[hL,hE]
    exact e1.le (by omega)
   ·obtain ⟨i0,hi0,hl0,hb0⟩:=unl_pos k hu0
    have hi0s:i0<ops.size:=Nat.lt_of_lt_of_le hi0 hf.le
    have rdy0:i0∈Region.ready .any ops listed:=by
     rw[mem_ready]
     refine ⟨?_,ops[i0],by simp[hi0s],fun e he hb=>?_⟩
     ·have:i0<listed.size:=by omega
      simpa[Array.getD_eq_getD_getElem?,Array.getElem?_eq_getElem this] using hl0
     ·have:=hf.edge i0 hi0 ops[i0] (by simp[hi0s]) e he hb
      exact hb0 _ this
    refine ⟨(fun hr=>by rw[hr] at rdy0;cases rdy0),fun i hi o hio=>?_⟩
    rw[mem_ready] at hi
    obtain ⟨hil,o',hio',hie⟩:=hi
    obtain rfl:o'=o:=by rw[hio] at hio';exact (Option.some.inj hio').symm
    have his:i<ops.size:=(Array.getElem?_eq_some_iff.1 hio).1
    have hil':listed.getD i false=false:=by
     have:i<listed.size:=by omega
     simpa[Array.getD_eq_getD_getElem?,Array.getElem?_eq_getElem this] using hil
    have wl:∀ j,waits ops ops.size i j=true->listed.getD j false=true:=fun j hj=>
     waits_listed hcl _ i j hj fun o2 ho2=>by rw[hio] at ho2;cases ho2;exact hie
    have hik:i<k:=by
     rcases Nat.lt_or_ge i k with h|h
     ·exact h
     ·have:=wl i0 (hf.tail i h his i0 hi0);simp[hl0] at this
    have agree:∀ t∈o'.looksAt ops,sL.tmps t=E.tmps t:=by
     intro t ht
     by_cases hx:∃ j p,j<k/\ops[j]?=some p/\p.dst=some t
     ·obtain ⟨j,p,h1,h2,h3⟩:=hx
      exact ht1 t ⟨j,p,h1,wl j (hf.look i j hik h1 _ _ _ hio h2 h3 ht).2,h2,h3⟩
     ·rw[ht2 t fun j p h1 _ h2 h3=>hx ⟨j,p,h1,h2,h3⟩,other t fun j p h1 h2 h3=>hx ⟨j,p,h1,h2,h3⟩]
    have next:∀ v,(∀ d,o'.dst=some d->E.tmps d=v)->VAny P G ops Q f (listed.setIfInBounds i true) (sL.put o'.dst v sL.H):=by
     intro v hv
     have hset:∀ j,j≠i->(listed.setIfInBounds i true).getD j false=listed.getD j false:=fun j hj=>getD_set_ne false (Ne.symm hj)
     have hseti:(listed.setIfInBounds i true).getD i false=true:=by
      have:i<listed.size:=by omega
      simp[this]
     refine ih _ _ (by simp[hsz]) ?_ ?_ ?_ hH hD ?_ ?_
     ·have:=unl_set (L:=fun i=>listed.getD i false) (L':=fun j=>(listed.setIfInBounds i true).getD j false) hil' hseti hset k hik
      omega
     ·intro j hj
      rw[hset j (by omega)];exact hlt j hj
     ·intro j p hp hj e he hb
      by_cases hji:j=i
      ·subst hji
       rw[hio] at hp;cases hp
       exact getD_set_true (hie e he hb)
      ·rw[hset j hji] at hj
       exact getD_set_true (hcl j p hp hj e he hb)
     ·rintro t ⟨j,p,h1,h2,h3,h4⟩
      by_cases hd:o'.dst=some t
      ·rw[hd,M13,hv t hd]
      ·rw[X11 hd]
       have hji:j≠i:=by rintro rfl;rw[hio] at h3;cases h3;exact hd h4
       rw[hset j hji] at h2
       exact ht1 t ⟨j,p,h1,h2,h3,h4⟩
     ·intro t ht
      have hd:o'.dst≠some t:=ht i o' hik hseti hio
      rw[X11 hd]
      refine ht2 t fun j p h1 h2 h3=>ht j p h1 ?_ h3
      exact getD_set_true h2
    unfold VOp
    rw[W12 agree]
    rcases yld i o' hik hio with ⟨hw,v,hv,hd⟩|⟨hw,hd⟩
    ·rw[if_pos hw]
     have hv':VQuiet P G (sL.eval G) sL.H o' v:=by rw[hH,<-e2];exact hv.congr agree
     exact hv' _ (next v hd)
    ·rw[hw]
     exact next _ hd
 refine key ops.size _ s (by simp) ?_ ?_ ?_ rfl rfl ?_ ?_
 ·have hle:∀ k,unl (fun i=>(Array.replicate ops.size false).getD i false) k<=k:=by
   intro k
   induction k with
   |zero=>exact Nat.le_refl _
   |succ k ih=>simp only[unl];split<;>omega
  have:=hle k
  have:=hf.le
  omega
 ·intro i _;simp[Array.getD_eq_getD_getElem?,Array.getElem?_replicate];split<;>rfl
 ·intro i o _ h;simp[Array.getD_eq_getD_getElem?,Array.getElem?_replicate] at h;split at h<;>simp at h
 ·rintro t ⟨j,o,_,h,_⟩;simp[Array.getD_eq_getD_getElem?,Array.getElem?_replicate] at h;split at h<;>simp at h
 ·intro t _;rfl
def tailOk (ops:Array Oper) (k:Nat):Bool:=
 (List.range (ops.size+1)).all fun m=>decide (m<k)||Region.ready .any ops (firstK ops.size m)==(if m<ops.size then [m] else [])
theorem firstK_set {m k:Nat} (h:k<m):(firstK m k).setIfInBounds k true=firstK m (k+1):=by
 have e:∀ c i,(firstK m c)[i]?=if i<m then some (decide (i<c)) else none:=by
  intro c i
  simp only[firstK,Array.getElem?_map,Array.getElem?_range]
  split<;>rfl
 refine Array.ext_getElem? fun i=>?_
 rw[Array.getElem?_setIfInBounds,e,e]
 by_cases hk:k=i
 ·subst hk;simp[firstK,h]
 ·rw[if_neg hk]
  split
  ·exact congrArg some (decide_eq_decide.2 (by omega))
  ·rfl
theorem VAny_tail {ops:Array Oper} {k:Nat} (hk:tailOk ops k=true):∀ (f m:Nat) (s:AS),k<=m->m+f=ops.size->VOps P G ops Q (ops.toList.drop m) s->VAny P G ops Q f (firstK ops.size m) s
 |f,m,s,h1,h2,h=>by
  have hr:Region.ready .any ops (firstK ops.size m)=(if m<ops.size then [m] else []):=by
   have:=List.all_eq_true.1 hk m (List.mem_range.2 (by omega))
   simp only[Bool.or_eq_true,decide_eq_true_eq,beq_iff_eq] at this
   exact this.resolve_left (by omega)
  cases f with
  |zero=>
   rw[if_neg (by omega)] at hr
   rw[List.drop_eq_nil_of_le (by simp;omega)] at h
   exact ⟨hr,h⟩
  |succ f=>
   have hm:m<ops.size:=by omega
   rw[if_pos hm] at hr
   refine ⟨(fun e=>by rw[hr] at e;cases e),fun i hi o ho=>?_⟩
   rw[hr] at hi
   obtain rfl:i=m:=by simpa using hi
   rw[firstK_set hm]
   have ho':o=ops[i]:=by simpa[hm] using ho.symm
   rw[List.drop_eq_getElem_cons (by simpa using hm)] at h
   subst ho'
   exact VOp.mono (show VOp P G ops Q ops[i] (VOps P G ops Q (List.drop (i+1) ops.toList)) s by simpa[VOps] using h) fun s' hs'=>VAny_tail hk f (i+1) s' (by omega) (by omega) hs'
theorem VW_draw {id:Nat} {ops:Array Oper} (k:Nat) (hm:P.follows .mixedOrders=true) (hk:headOk ops k=true) (ht:tailOk ops k=true)
  (h:VQ P G ops (ops.toList.take k) s (fun s1=>VOps P G ops Q (ops.toList.drop k) s1)):VW P G n r (.region id ops true) Q s:=by
 have hle:=(headFacts hk).le
 refine VW_region_any hm (VAny_head k hk ?_)
 have mono:∀ (l:List Oper) (s:AS) (K K':AS->Prop),(∀ s,K s->K' s)->VQ P G ops l s K->VQ P G ops l s K':=by
  intro l
  induction l with
  |nil=>exact fun s K K' hk h=>hk _ h
  |cons o l ih=>
   intro s K K' hk h
   simp only[VQ] at h ⊢
   split
   ·rw[if_pos ‹_›] at h;obtain ⟨v,h1,h2⟩:=h;exact ⟨v,h1,ih _ _ _ hk h2⟩
   ·rw[if_neg ‹_›] at h;exact ih _ _ _ hk h
 exact mono _ _ _ _ (fun s1 h1=>VAny_tail ht _ k s1 (Nat.le_refl _) (by omega) h1) h
end
inductive TD where
 |int (k:IntKind)
 |bool
 |str
 |ptr
 |struct (fs:List (Nat×Nat×Bool))
 |slice (e sz:Nat)
 |map (k e:Nat)
 |arr (len e sz:Nat)
 |func
 |iface
 |other
structure TI where
 d:TD
 size:Nat
 bytes:Nat
 zero:AV
def isAggB (P:Program) (t:TypeId):Bool:=match P.underlying t with|some (.struct _)|some (.array _ _)=>true|_=>false
def szOf (P:Program) (t:TypeId):Nat:=match P.info? t with|some i=>i.size|none=>0
def tdOf (P:Program):TypeDesc->TD
 |.int k=>.int k
 |.bool=>.bool
 |.string=>.str
 |.pointer _=>.ptr
 |.slice e=>.slice e (szOf P e)
 |.map k e=>.map k e
 |.struct fs=>.struct (fs.toList.map fun f=>(f.offset,szOf P f.type,isAggB P f.type))
 |.array n e=>.arr n e (szOf P e)
 |.func .. => .func
 |.interface _=>.iface
 |_=>.other
def allInfo (P:Program):TypeDesc->Bool
 |.slice e | .array _ e=>(P.info? e).isSome
 |.struct fs=>fs.toList.all fun f=>(P.info? f.type).isSome&&(P.underlying f.type).isSome
 |_=>true
def tiOf (P:Program) (t:TypeId):Option TI:=
 match P.info? t,P.underlying t with
 |some i,some d=>match i.zero with
  |some z=>if cstOk z&&allInfo P d&&z.cells.size==i.size then some ⟨tdOf P d,i.size,i.bytes,cst z⟩ else none
  |none=>none
 |_,_=>none
structure TIs (P:Program) (t:TypeId) (ti:TI) (i:TypeInfo) (d:TypeDesc) (z:Value):Prop where
 info:P.info? t=some i
 und:P.underlying t=some d
 zero:i.zero=some z
 ok:cstOk z=true
 all:allInfo P d=true
 zsize:z.cells.size=i.size
 eq:ti=⟨tdOf P d,i.size,i.bytes,cst z⟩
theorem P12 {P:Program} {t:TypeId} {ti:TI} (h:tiOf P t=some ti):∃ i d z,TIs P t ti i d z:=by
 unfold tiOf at h
 split at h
 ·rename_i i d hi hd
  split at h
  ·rename_i z hz
   split at h
   ·rename_i hc
    simp only[Bool.and_eq_true,beq_iff_eq] at hc
    exact ⟨i,d,z,hi,hd,hz,hc.1.1,hc.1.2,hc.2,(Option.some.inj h).symm⟩
   ·cases h
  ·cases h
 ·cases h
def tdAt (P:Program) (t:TypeId):Option TD:=(tiOf P t).map TI.d
def TI.agg (ti:TI):Bool:=match ti.d with | .struct _ | .arr _ _ _=>true|_=>false
def ldv (ti:TI) (cs:List AV):Option AV:=
 if ti.agg then (if ti.size<=cs.length then some (.agg (cs.take ti.size)) else none) else cs.head?
def cellsAt (H:HM):AV->Option (List AV)
 |.ref cs=>some cs
 |.addr b off=>match H b with
  |some (.cells _ cs)=>some (cs.drop off)
  |_=>none
 |.elem b i sz off=>match H b with
  |some (.row _ sz' _ xs)=>if sz=sz' then (xs[i]?).map fun x=>x.cells.drop off else none
  |_=>none
 |_=>none
def strLt (a b:ByteArray):Bool:=Op.bytesLess a.toList b.toList
def vnil:TD->AV->Value->Option Bool
 |.map _ _,.val (.map none),.map none=>some true
 |.map _ _,.map _,.map none=>some false
 |.map _ _,.imap _,.map none=>some false
 |.ptr,.val (.pointer none),.pointer none=>some true
 |.ptr,.ref _,.pointer none=>some false
 |.ptr,.addr _ _,.pointer none=>some false
 |_,_,_=>none
def vbin (P:Program) (op:BinOp) (t:TypeId):AV->AV->Option AV
 |.val (.int k a),.val (.int k' b)=>
  if k=k' then
   match op with
   |.add=>some (.val (.int k (k.wrap (a+b))))
   |.sub=>some (.val (.int k (k.wrap (a-b))))
   |.mul=>some (.val (.int k (k.wrap (a*b))))
   |.quo=>if b=0 then none else some (.val (.int k (k.wrap (a.tdiv b))))
   |.rem=>if b=0 then none else some (.val (.int k (a.tmod b)))
   |.eql=>some (.val (.bool (decide (a=b))))
   |.neq=>some (.val (.bool (!decide (a=b))))
   |.lss=>some (.val (.bool (decide (a<b))))
   |.leq=>some (.val (.bool (decide (a<=b))))
   |.gtr=>some (.val (.bool (decide (b<a))))
   |.geq=>some (.val (.bool (decide (b<=a))))
   |_=>none
  else none
 |.val (.string a),.val (.string b)=>
  match op with
  |.add=>if a.size+b.size<=lim then some (.val (.string (a++b))) else none
  |.eql=>some (.val (.bool (decide (a=b))))
  |.neq=>some (.val (.bool (!decide (a=b))))
  |.lss=>some (.val (.bool (strLt a b)))
  |.leq=>some (.val (.bool (strLt a b||decide (a=b))))
  |.gtr=>some (.val (.bool (!(strLt a b||decide (a=b)))))
  |.geq=>some (.val (.bool (!strLt a b)))
  |_=>none
 |.val (.bool a),.val (.bool b)=>
  match tdAt P t,op with
  |some .bool,.eql=>some (.val (.bool (a==b)))
  |some .bool,.neq=>some (.val (.bool (!(a==b))))
  |_,_=>none
 |x,.val n=>
  match tdAt P t,op with
  |some d,.eql=>(vnil d x n).map fun b=>.val (.bool b)
  |some d,.neq=>(vnil d x n).map fun b=>.val (.bool (!b))
  |_,_=>none
 |_,_=>none
def keyOf:AV->Option Value
 |.val (.string s)=>some (.string s)
 |.val (.int k n)=>some (.int k n)
 |.val (.bool b)=>some (.bool b)
 |_=>none
def keyFits:TD->Value->Bool
 |.str,.string _=>true
 |.int k,.int k' _=>k==k'
 |.bool,.bool _=>true
 |_,_=>false
def sameKeyV:Value->Value->Bool
 |.string a,.string b=>a==b
 |.int _ a,.int _ b=>a==b
 |.bool a,.bool b=>a==b
 |_,_=>false
def assoc (k:Value):List (AV×AV)->Option AV
 |[]=>none
 |(.val u,v)::es=>if sameKeyV k u then some v else assoc k es
 |_::es=>assoc k es
def keysOk (d:TD) (es:List (AV×AV)):Bool:=es.all fun e=>match e.1 with | .val u=>keyFits d u|_=>false
def entriesOf (H:HM):AV->Option (List (AV×AV))
 |.val (.map none)=>some []
 |.imap es=>some es
 |.map b=>match H b with
  |some (.map es)=>some es
  |_=>none
 |_=>none
def fieldOf (ti:TI) (i:Nat):Option (Nat×Nat×Bool):=match ti.d with | .struct fs=>fs[i]?|_=>none
def vslice (lo hi mx:Option AV):AV->Option AV
 |.val (.string s)=>match lo,hi,mx with
  |none,none,none=>some (.val (.string (s.extract 0 s.size)))
  |some (.val (.int _ l)),none,none=>if 0<=l/\l<=s.size then some (.val (.string (s.extract l.toNat s.size))) else none
  |none,some (.val (.int _ h)),none=>if 0<=h/\h<=s.size then some (.val (.string (s.extract 0 h.toNat))) else none
  |some (.val (.int _ l)),some (.val (.int _ h)),none=>if 0<=l/\l<=h/\h<=s.size then some (.val (.string (s.extract l.toNat h.toNat))) else none
  |_,_,_=>none
 |.list xs=>match lo,hi,mx with
  |some (.val (.int _ l)),none,none=>if 0<=l/\l<=xs.length then some (.list (xs.drop l.toNat)) else none
  |none,some (.val (.int _ h)),none=>if 0<=h/\h<=xs.length then some (.list (xs.take h.toNat)) else none
  |some (.val (.int _ l)),some (.val (.int _ h)),none=>if 0<=l/\l<=h/\h<=xs.length then some (.list ((xs.take h.toNat).drop l.toNat)) else none
  |none,some (.val (.int _ 0)),some (.val (.int _ 0))=>some .nil0
  |_,_,_=>none
 |.nil0=>match lo,hi,mx with
  |none,some (.val (.int _ 0)),some (.val (.int _ 0))=>some .nil0
  |none,some (.val (.int _ 0)),none=>some .nil0
  |_,_,_=>none
 |_=>none
def vval (P:Program) (ρ:Operand->AV) (H:HM) (o:Oper):Option AV:=
 match o.op with
 |.move x | .assign x=>some (ρ x)
 |.pick c a b=>match ρ c with
  |.val (.bool t)=>some (if t then ρ a else ρ b)
  |_=>none
 |.load t x=>match tiOf P t,cellsAt H (ρ x) with
  |some ti,some cs=>ldv ti cs
  |_,_=>none
 |.nilCheck x=>match ρ x with
  |.ref cs=>some (.ref cs)
  |.addr b off=>some (.addr b off)
  |.elem b i sz off=>some (.elem b i sz off)
  |_=>none
 |.binOp op t x y _=>vbin P op t (ρ x) (ρ y)
 |.unOp op _ x=>match op,ρ x with
  |.not,.val (.bool b)=>some (.val (.bool (!b)))
  |.neg,.val (.int k n)=>some (.val (.int k (k.wrap (0-n))))
  |_,_=>none
 |.convert src dst x=>match tdAt P src,tdAt P dst,ρ x with
  |some _,some (.int k),.val (.int _ n)=>some (.val (.int k (k.wrap n)))
  |some _,some .str,.val (.string s)=>some (.val (.string s))
  |some _,some .str,.val (.int _ n)=>if (Utf8.encode n).size<=lim then some (.val (.string (Utf8.encode n))) else none
  |_,_,_=>none
 |.fieldAddr t x i=>match (tiOf P t).bind (fieldOf · i),ρ x with
  |some (off,fz,_),.ref cs=>if fz=0 then none else some (.ref (cs.drop off))
  |some (off,fz,_),.addr b o=>if fz=0 then none else some (.addr b (o+off))
  |some (off,fz,_),.elem b i sz o=>if fz=0 then none else some (.elem b i sz (o+off))
  |_,_=>none
 |.field t x i=>match (tiOf P t).bind (fieldOf · i),ρ x with
  |some (off,sz,true),.agg cs=>if off+sz<=cs.length then some (.agg ((cs.drop off).take sz)) else none
  |some (off,_,false),.agg cs=>(cs[off]?)
  |_,_=>none
 |.indexAddr t x i=>match tdAt P t,ρ x,ρ i with
  |some (.slice _ sz),.list xs,.val (.int _ i)=>if 0<=i then (xs[i.toNat]?).bind fun x=>if x.cells.length=sz then some (.ref x.cells) else none else none
  |some (.slice _ sz),.mlist b n _,.val (.int _ i)=>if 0<=i/\i<n then some (.elem b i.toNat sz 0) else none
  |some (.arr len _ sz),.ref cs,.val (.int _ i)=>if 0<=i/\i<len then some (.ref (cs.drop (i.toNat*sz))) else none
  |_,_,_=>none
 |.index t x i=>match tdAt P t,ρ x,ρ i with
  |some .str,.val (.string s),.val (.int _ i)=>if 0<=i then (s[i.toNat]?).map fun c=>.val (.int .u8 c.toNat) else none
  |_,_,_=>none
 |.slice t x lo hi mx=>match tdAt P t,ρ x with
  |some .str,.val (.string s)=>vslice (lo.map ρ) (hi.map ρ) (mx.map ρ) (.val (.string s))
  |some (.slice _ sz),.list xs=>if ∀ x∈xs,x.cells.length=sz then vslice (lo.map ρ) (hi.map ρ) (mx.map ρ) (.list xs) else none
  |some (.slice _ _),.nil0=>vslice (lo.map ρ) (hi.map ρ) (mx.map ρ) .nil0
  |_,_=>none
 |.lookup t x k ok=>match tdAt P t,entriesOf H (ρ x),keyOf (ρ k) with
  |some (.map kt et),some es,some key=>match tdAt P kt,tiOf P et with
   |some kd,some ei=>if keyFits kd key&&keysOk kd es then
     (match assoc key es with
      |some v=>some (if ok then .tup [v,.bool true] else v)
      |none=>some (if ok then .tup [ei.zero,.bool false] else ei.zero))
    else none
   |_,_=>none
  |_,_,_=>none
 |.extract x i=>match ρ x with
  |.tup vs=>vs[i]?
  |_=>none
 |.build t parts=>match tiOf P t with
  |some ti=>match ti.d,ti.zero with
   |.struct fs,.agg z=>vbuild fs z (parts.toList.map fun p=>(p.1,ρ p.2))
   |_,_=>none
  |none=>none
 |.makeFunc fn first cap=>some (.func fn (first.toList.map ρ) (cap.toList.map ρ))
 |.makeInterface t x=>match tdAt P t with
  |some .iface|some .other|none=>none
  |some _=>some (.iface t (ρ x))
 |.call c=>match c.callee with
  |.builtin .len=>match c.args.toList,c.argTypes.toList with
   |[x],[t]=>match tdAt P t,ρ x with
    |some .str,.val (.string s)=>some (.int s.size)
    |some (.slice _ _),.list xs=>some (.int xs.length)
    |some (.slice _ _),.nil0=>some (.int 0)
    |some (.slice _ _),.mlist _ n _=>some (.int n)
    |some (.map _ _),.val (.map none)=>some (.int 0)
    |some (.map _ _),.imap es=>some (.int es.length)
    |some (.map _ _),.map b=>match H b with
     |some (.map es)=>some (.int es.length)
     |_=>none
    |_,_=>none
   |_,_=>none
  |.builtin .min=>match c.args.toList.map ρ with
   |[.val (.int k x),.val (.int k' y)]=>if k=k' then some (.val (.int k (if y<x then y else x))) else none
   |_=>none
  |.builtin .max=>match c.args.toList.map ρ with
   |[.val (.int k x),.val (.int k' y)]=>if k=k' then some (.val (.int k (if x<y then y else x))) else none
   |_=>none
  |_=>none
 |_=>none
where
 vbuild (fs:List (Nat×Nat×Bool)):List AV->List (Nat×AV)->Option AV
  |z,[]=>some (.agg z)
  |z,(i,v)::rest=>match fs[i]? with
   |some (off,sz,_)=>if v.cells.length=sz/\off+sz<=z.length/\v.one=true then vbuild fs (z.take off++v.cells++z.drop (off+sz)) rest else none
   |none=>none
section
variable {P:Program} {G:GT} {ρ:Operand->AV} {H:HM} {o:Oper} {v:AV} {w:World}
theorem quiet_of (h:∀ ρc w,(∀ x∈o.op.operands,Rep (Imm H w) w (ρ x) (ρc x))->St G H w->∃ u,(execOp ρc o).run P w=.ok (.value u) w/\Rep (Imm H w) w v u):VQuiet P G ρ H o v:=by
 intro K hk ρc w h1 h2
 obtain ⟨u,h3,h4⟩:=h ρc w h1 h2
 rw[h3]
 exact ⟨v,H,hk,h4,h2,Evo.refl _ _⟩
theorem D11 (b o i:Nat):(⟨b,o,none⟩:Addr).add i=⟨b,o+i,none⟩:=by unfold Addr.add;split<;>simp_all
theorem G12 {b o:Nat} {arr:Array Value} {t:TypeId} {fr:Nat×Nat} (h:w.heap[b]?=some (.cells arr t fr)):w.cell? ⟨b,o,none⟩=arr[o]?:=by
 simp[World.cell?,h]
theorem frozen_block {b o:Nat} {arr:Array Value} {t:TypeId} (h:w.heap[b]?=some (.cells arr t (0,0))):w.frozen? ⟨b,o,none⟩=false:=by
 simp[World.frozen?,h]
theorem Reads.drop {ad:Addr} {vs:List Value} (h:Reads w ad vs) (hs:ad.spot=none) (n:Nat):Reads w (ad.add n) (vs.drop n):=by
 intro i v hi
 rw[List.getElem?_drop] at hi
 obtain ⟨b,o,sp⟩:=ad
 simp only at hs
 subst hs
 have:=h _ _ hi
 rw[D11] at this ⊢
 rw[D11]
 rwa [Nat.add_assoc]
theorem Reads.take {ad:Addr} {vs:List Value} (h:Reads w ad vs) (n:Nat):Reads w ad (vs.take n):=by
 intro i v hi
 rw[List.getElem?_take] at hi
 split at hi
 ·exact h i v hi
 ·cases hi
theorem add_spot {ad:Addr} (h:ad.spot=none) (n:Nat):(ad.add n).spot=none:=by unfold Addr.add;split<;>simp[h]
theorem row_elem {I:Nat->Prop} {xs:List AV} {vs:List Value} {sz i:Nat} {x:AV} (h:RepL I w (flat xs) vs) (hz:∀ x∈xs,x.cells.length=sz) (hx:xs[i]?=some x) :
  RepL I w x.cells ((vs.drop (i*sz)).take sz):=by
 have h1:=h.drop (i*sz)
 rw[flat_drop hz] at h1
 have hlt:i<xs.length:=(List.getElem?_eq_some_iff.1 hx).1
 rw[List.drop_eq_getElem_cons hlt] at h1
 have hxi:xs[i]=x:=(List.getElem?_eq_some_iff.1 hx).2
 rw[hxi,flat_cons] at h1
 have:=h1.of_append.1
 rwa [hz x (List.mem_of_getElem? hx)] at this
theorem cellsAt_reads {a:AV} {p:Value} {cs:List AV} (h:cellsAt H a=some cs) (hr:Rep (Imm H w) w a p) (hst:St G H w) :
  ∃ ad vs,p=.pointer (some ad)/\ad.spot=none/\RepL (Imm H w) w cs vs/\Reads w ad vs/\∀ v∈vs,v.oneCell'=true:=by
 cases hr with
 |ref h1 h2 h3 h4 h5=>simp only[cellsAt,Option.some.injEq] at h;subst h;exact ⟨_,_,rfl,h2,h5,h3,h4⟩
 |addr b off=>
  simp only[cellsAt] at h
  split at h
  ·rename_i t cs0 hb
   simp only[Option.some.injEq] at h;subst h
   obtain ⟨vs,h1,h2,h3⟩:=hst.obj _ _ hb
   refine ⟨_,vs.drop off,rfl,rfl,h2.drop off,fun i v hi=>?_,fun v hv=>h3 v (List.mem_of_mem_drop hv)⟩
   rw[D11,G12 h1]
   rw[List.getElem?_drop] at hi
   simpa using hi
  ·cases h
 |elem b i sz off=>
  simp only[cellsAt] at h
  split at h
  ·rename_i t sz' cap xs hb
   split at h
   ·rename_i hsz
    subst hsz
    cases hx:xs[i]? with
    |none=>rw[hx] at h;cases h
    |some x=>
     rw[hx] at h
     simp only[Option.map_some,Option.some.injEq] at h
     subst h
     obtain ⟨vs,rest,h1,h2,h3,h4,h5⟩:=hst.obj _ _ hb
     have he:=(row_elem h2 h3 hx).drop off
     refine ⟨_,_,rfl,rfl,he,fun j v hj=>?_,fun v hv=>h4 v (List.mem_of_mem_drop (List.mem_of_mem_take (List.mem_of_mem_drop hv)))⟩
     rw[D11,G12 h1]
     rw[List.getElem?_drop,List.getElem?_take] at hj
     split at hj
     ·rw[List.getElem?_drop] at hj
      have hlt:=(List.getElem?_eq_some_iff.1 hj).1
      rw[List.getElem?_toArray,List.getElem?_append_left (by omega),<-hj]
      congr 1;omega
     ·cases hj
   ·cases h
  ·cases h
 |_=>simp[cellsAt] at h
theorem run_isAgg {t:TypeId} {ti:TI} {i:TypeInfo} {d:TypeDesc} {z:Value} (h:TIs P t ti i d z):(isAgg t).run P w=.ok ti.agg w:=by
 rw[h.eq]
 simp only[isAgg,Sem.run_bind,run_underlying h.und,Result.andThen]
 cases d<;>simp[TI.agg,tdOf]
theorem run_sizeOf' {t:TypeId} {ti:TI} {i:TypeInfo} {d:TypeDesc} {z:Value} (h:TIs P t ti i d z):(sizeOf t).run P w=.ok ti.size w:=by
 rw[h.eq]
 simp[sizeOf,run_typeInfo _ h.info,Result.andThen]
theorem run_zeroValue' {t:TypeId} {ti:TI} {i:TypeInfo} {d:TypeDesc} {z:Value} (h:TIs P t ti i d z):(zeroValue t).run P w=.ok z w:=by
 simp[zeroValue,run_typeInfo _ h.info,Result.andThen,h.zero]
theorem run_loadVar_ldv {t:TypeId} {ti:TI} {cs:List AV} {vs:List Value} {ad:Addr} (ht:tiOf P t=some ti) (hl:ldv ti cs=some v) (hr:RepL (Imm H w) w cs vs) (hm:Reads w ad vs)
  (h1:∀ v∈vs,v.oneCell'=true):∃ u,(loadVar t ad).run P w=.ok u w/\Rep (Imm H w) w v u:=by
 obtain ⟨i,d,z,hi⟩:=P12 ht
 simp only[loadVar,Sem.run_bind,run_isAgg hi,Result.andThen,run_sizeOf' hi]
 unfold ldv at hl
 cases ha:ti.agg with
 |true=>
  rw[if_pos ha] at hl
  split at hl
  ·rename_i hle
   simp only[Option.some.injEq] at hl
   subst hl
   have hlen:=hr.length
   have hc:=run_loadCells_list (P:=P) (w:=w) ad (vs.take ti.size) (fun j u hj=>(hm.take _) j u hj)
   rw[List.length_take,Nat.min_eq_left (by omega)] at hc
   simp only[if_true,Sem.run_ite,Sem.run_bind,run_sizeOf' hi,Result.andThen,hc,Sem.run_pure]
   exact ⟨_,rfl,.agg (fun v hv=>h1 v (List.mem_of_mem_take hv)) (hr.take _)⟩
  ·cases hl
 |false=>
  rw[if_neg (by simp[ha])] at hl
  cases cs with
  |nil=>cases hl
  |cons c cs=>
   simp only[List.head?_cons,Option.some.injEq] at hl
   subst hl
   cases hr with
   |cons h hs=>
    rename_i u us
    have:=hm 0 u rfl
    rw[show ad.add 0=ad from by simp[Addr.add]] at this
    refine ⟨u,?_,h⟩
    simp[this]
theorem D12 {t:TypeId} {d:TD} (h:tdAt P t=some d):∃ ti i dd z,TIs P t ti i dd z/\tdOf P dd=d:=by
 unfold tdAt at h
 cases ht:tiOf P t with
 |none=>rw[ht] at h;cases h
 |some ti=>
  obtain ⟨i,dd,z,hi⟩:=P12 ht
  rw[ht] at h
  simp only[Option.map_some,Option.some.injEq] at h
  exact ⟨ti,i,dd,z,hi,by rw[hi.eq] at h;exact h⟩
theorem bytes_eq (a b:ByteArray):(a.toList==b.toList)=decide (a=b):=by
 rw[Bool.eq_iff_iff]
 simp only[beq_iff_eq,decide_eq_true_eq]
 constructor
 ·intro h
  rw[ByteArray.toList_eq,ByteArray.toList_eq] at h
  cases a;cases b
  simpa using h
 ·rintro rfl;rfl
theorem run_eqGuard {op:BinOp} {t:TypeId} {X Y:Operand} {a b:Value} (h1:a≠.nilIface) (h2:∀ cs,a≠.agg cs):(eqGuard op t X Y a b).run P w=.ok () w:=by
 unfold eqGuard
 cases a<;>cases b<;>first|(exact absurd rfl h1)|(exact absurd rfl (h2 _))|(simp;done)|(simp;split<;>rfl)
theorem beq_dec (a b:Int):(a==b)=decide (a=b):=by rw[Bool.eq_iff_iff];simp
theorem bin_int {op:BinOp} {t:TypeId} {k:IntKind} {a b:Int} (h:vbin P op t (.val (.int k a)) (.val (.int k b))=some v) :
  ∃ u,(binOp op t (.int k a) (.int k b)).run P w=.ok u w/\v=.val u/\okV u:=by
 simp only[vbin,if_true] at h
 cases op<;>simp only[reduceCtorEq,Option.some.injEq] at h
 case quo=>
  split at h
  ·cases h
  ·rename_i hz;simp only[Option.some.injEq] at h;exact ⟨_,by simp[binOp,Op.intDiv,hz],h.symm,trivial⟩
 case rem=>
  split at h
  ·cases h
  ·rename_i hz;simp only[Option.some.injEq] at h;exact ⟨_,by simp[binOp,Op.intDiv,hz],h.symm,trivial⟩
 all_goals
  subst h
  refine ⟨_,?_,rfl,trivial⟩
  simp only[binOp,Op.intArith,Op.intCmp,Sem.run_pure,ne_eq,not_true_eq_false,if_false,bne,beq_dec]
  try rfl
theorem bin_str {op:BinOp} {t:TypeId} {a b:ByteArray} (h:vbin P op t (.val (.string a)) (.val (.string b))=some v) :
  ∃ u,(binOp op t (.string a) (.string b)).run P w=.ok u w/\v=.val u/\okV u:=by
 simp only[vbin] at h
 cases op<;>simp only[reduceCtorEq,Option.some.injEq] at h
 case add=>
  split at h
  ·rename_i hz
   simp only[Option.some.injEq] at h
   refine ⟨.string (a++b),?_,h.symm,?_⟩
   ·have:¬ (((a.size+b.size:Nat):Int) > IntKind.i64.max):=by
     have:IntKind.i64.max=9223372036854775807:=by decide
     unfold lim at hz;omega
    simp only[binOp,Op.stringOp,if_neg this,Sem.run_pure]
   ·show (a++b).size<=lim
    rw[ByteArray.size_append];exact hz
  ·cases h
 all_goals
  subst h
  refine ⟨_,?_,rfl,trivial⟩
  simp only[binOp,Op.stringOp,bytes_eq,Sem.run_pure,strLt]
theorem run_underlying' {t:TypeId} {d:TypeDesc} (h:P.underlying t=some d):(underlying t).run P w=.ok d w:=run_underlying h w
theorem equalIn_bool {t:TypeId} (h:P.underlying t=some .bool) (d:Nat) (a b:Bool):(Op.equalIn (d+1) t (.bool a) (.bool b)).run P w=.ok (a==b) w:=by
 simp only[Op.equalIn,Sem.run_bind,run_underlying' h,Result.andThen,Sem.run_pure]
theorem equalIn_map {t k e:TypeId} (h:P.underlying t=some (.map k e)) (d:Nat) (a:Option Nat):(Op.equalIn (d+1) t (.map a) (.map none)).run P w=.ok a.isNone w:=by
 cases a<;>simp only[Op.equalIn,Sem.run_bind,run_underlying' h,Result.andThen,Sem.run_pure,Option.isNone_none,Option.isNone_some]
theorem equalIn_ptr {t e:TypeId} (h:P.underlying t=some (.pointer e)) (d:Nat) (a:Option Addr):(Op.equalIn (d+1) t (.pointer a) (.pointer none)).run P w=.ok a.isNone w:=by
 cases a<;>simp only[Op.equalIn,Sem.run_bind,run_underlying' h,Result.andThen,Sem.run_pure,Option.isNone_none,Option.isNone_some]
theorem bin_bool {op:BinOp} {t:TypeId} {a b:Bool} (h:vbin P op t (.val (.bool a)) (.val (.bool b))=some v) :
  ∃ u,(binOp op t (.bool a) (.bool b)).run P w=.ok u w/\v=.val u/\okV u:=by
 simp only[vbin] at h
 cases hd:tdAt P t with
 |none=>rw[hd] at h;cases op<;>cases h
 |some d=>
  obtain ⟨ti,i,dd,z,hi,hdd⟩:=D12 hd
  rw[hd] at h
  cases d<;>cases op<;>simp only[reduceCtorEq,Option.some.injEq] at h
  all_goals
   subst h
   refine ⟨_,?_,rfl,trivial⟩
   cases dd<;>simp only[tdOf,reduceCtorEq] at hdd
   simp only[binOp,Sem.run_bind,Op.equal,equalIn_bool hi.und 9999,Op.maxDepth,Result.andThen,Sem.run_pure]
theorem bin_nil {t:TypeId} {x:AV} {d:TD} {n a:Value} {b:Bool} (hn:vnil d x n=some b) (hd:tdAt P t=some d) (hr:Rep (Imm H w) w x a) :
  (binOp .eql t a n).run P w=.ok (.bool b) w/\(binOp .neq t a n).run P w=.ok (.bool (!b)) w/\a≠.nilIface/\∀ cs,a≠.agg cs:=by
 obtain ⟨ti,i,dd,z,hi,hdd⟩:=D12 hd
 unfold vnil at hn
 split at hn<;>simp only[reduceCtorEq,Option.some.injEq] at hn<;>subst hn<;>cases hr<;>cases dd<;>simp only[tdOf,reduceCtorEq] at hdd <;>
  (refine ⟨?_,?_,by simp,by simp⟩ <;>
   first
   |simp only[binOp,Sem.run_bind,Op.equal,equalIn_map hi.und 9999,Op.maxDepth,Result.andThen,Sem.run_pure,Option.isNone_none,Option.isNone_some,Bool.not_true,Bool.not_false]
   |simp only[binOp,Sem.run_bind,Op.equal,equalIn_ptr hi.und 9999,Op.maxDepth,Result.andThen,Sem.run_pure,Option.isNone_none,Option.isNone_some,Bool.not_true,Bool.not_false])
theorem quiet_bin {op:BinOp} {t:TypeId} {x y:AV} {a b:Value} {X Y:Operand} (h:vbin P op t x y=some v) (ha:Rep (Imm H w) w x a) (hb:Rep (Imm H w) w y b) :
  ∃ u,(do eqGuard op t X Y a b;binOp op t a b:Sem Value).run P w=.ok u w/\Rep (Imm H w) w v u:=by
 have fin:(∃ u,(binOp op t a b).run P w=.ok u w/\v=.val u/\okV u)->a≠.nilIface->(∀ cs,a≠.agg cs) ->
   ∃ u,(do eqGuard op t X Y a b;binOp op t a b:Sem Value).run P w=.ok u w/\Rep (Imm H w) w v u:=by
  rintro ⟨u,e1,rfl,e2⟩ e3 e4
  refine ⟨u,?_,.val _ e2⟩
  simp only[Sem.run_bind,run_eqGuard e3 e4,Result.andThen,e1]
 have h0:=h
 unfold vbin at h
 split at h
 ·cases ha.val_eq;cases hb.val_eq
  split at h
  ·rename_i e;subst e
   exact fin (bin_int h0) (by simp) (by simp)
  ·cases h
 ·cases ha.val_eq;cases hb.val_eq
  exact fin (bin_str h0) (by simp) (by simp)
 ·cases ha.val_eq;cases hb.val_eq
  exact fin (bin_bool h0) (by simp) (by simp)
 ·cases hb.val_eq
  split at h
  ·rename_i d hd
   cases hn:vnil d x _ with
   |none=>rw[hn] at h;cases h
   |some q=>
    rw[hn] at h
    simp only[Option.map_some,Option.some.injEq] at h
    have:=bin_nil hn hd ha
    exact fin ⟨_,this.1,h.symm,trivial⟩ this.2.2.1 this.2.2.2
  ·rename_i d hd
   cases hn:vnil d x _ with
   |none=>rw[hn] at h;cases h
   |some q=>
    rw[hn] at h
    simp only[Option.map_some,Option.some.injEq] at h
    have:=bin_nil hn hd ha
    exact fin ⟨_,this.2.1,h.symm,trivial⟩ this.2.2.1 this.2.2.2
  ·cases h
 ·cases h
theorem find_assoc {kd:TypeDesc} {key:Value} (hf:keyFits (tdOf P kd) key=true):∀ {es:List (AV×AV)} {ents:List MapEntry} (i:Nat),
  RepL (Imm H w) w (es.map (·.1)) (ents.map (·.key))->RepL (Imm H w) w (es.map (·.2)) (ents.map (·.val))->keysOk (tdOf P kd) es=true ->
  (match assoc key es with
   |some v=>∃ j u,Instr.findNow kd key ents i=some (some (j,u))/\Rep (Imm H w) w v u
   |none=>Instr.findNow kd key ents i=some none)
 |[],[],i,_,_,_=>rfl
 |[],_::_,i,h,_,_=>by cases h
 |_::_,[],i,h,_,_=>by cases h
 |(k,x)::es,e::ents,i,hk,hv,ho=>by
  cases hk with
  |cons hk1 hk2=>
   cases hv with
   |cons hv1 hv2=>
    simp only[keysOk,List.all_cons,Bool.and_eq_true] at ho
    cases k with
    |val u=>
     simp only at ho
     have hu:e.key=u:=hk1.val_eq
     have ih:=find_assoc hf (es:=es) (ents:=ents) (i+1) hk2 hv2 ho.2
     have hs:Instr.sameNow kd key e.key=some (sameKeyV key u):=by
      rw[hu]
      have h1:=ho.1
      cases kd<;>simp only[tdOf,keyFits] at hf h1<;>try (cases hf;done)
      all_goals (cases key<;>simp only[keyFits] at hf<;>try (cases hf;done))
      all_goals (cases u<;>simp only[keyFits] at h1<;>try (cases h1;done))
      all_goals simp_all[Instr.sameNow,sameKeyV]
     simp only[assoc,Instr.findNow,hs]
     cases hq:sameKeyV key u with
     |true=>simp only[if_true];exact ⟨_,_,rfl,hv1⟩
     |false=>simpa using ih
    |_=>simp at ho
theorem run_checkKey {t:TypeId} {kd:TypeDesc} {key:Value} (h:P.underlying t=some kd) (hf:keyFits (tdOf P kd) key=true) (b:Bool) (n:Nat):(Instr.checkKey b (n+1) t key).run P w=.ok () w:=by
 simp only[Instr.checkKey,Sem.run_bind,run_underlying' h,Result.andThen]
 cases kd<;>simp only[tdOf,keyFits] at hf<;>try (cases hf;done)
 all_goals (cases key<;>simp only[keyFits] at hf<;>try (cases hf;done))
 all_goals rfl
theorem entries_get {a:AV} {m:Value} {es:List (AV×AV)} (h:entriesOf H a=some es) (hr:Rep (Imm H w) w a m) (hst:St G H w) :
  ∃ ents:Array MapEntry,RepL (Imm H w) w (es.map (·.1)) (ents.toList.map (·.key))/\RepL (Imm H w) w (es.map (·.2)) (ents.toList.map (·.val)) /\
   ((m=.map none/\ents = #[])\/∃ r c,m=.map (some r)/\w.heap[r]?=some (.map ents c)):=by
 unfold entriesOf at h
 split at h
 ·cases h;cases hr.val_eq;exact ⟨#[],.nil,.nil,.inl ⟨rfl,rfl⟩⟩
 ·cases h
  cases hr with
  |imap h1 h2 h0 h3 h4=>exact ⟨_,h3,h4,.inr ⟨_,_,rfl,h2⟩⟩
 ·split at h
  ·cases h
   rename_i hb
   cases hr
   obtain ⟨ents,c,h1,h2,h3⟩:=hst.obj _ _ hb
   exact ⟨ents,h2,h3.1,.inr ⟨_,c,rfl,h1⟩⟩
  ·cases h
 ·cases h
theorem key_eq {a:AV} {k v:Value} (h:keyOf a=some k) (hr:Rep (Imm H w) w a v):v=k:=by
 unfold keyOf at h
 split at h<;>first|(cases h;exact hr.val_eq)|cases h
theorem run_getMap {r:Nat} {ents:Array MapEntry} {c:Nat} (h:w.heap[r]?=some (.map ents c)):(getObj r).run P w=.ok (.map ents c) w:=by
 simp[getObj,Sem.run,h]
theorem rep_tup2 {I:Nat->Prop} {a b:AV} {u v:Value} (ha:Rep I w a u) (hb:Rep I w b v):Rep I w (.tup [a,b]) (.tuple #[u,v]):=.tup (.cons ha (.cons hb .nil))
theorem quiet_lookup {t:TypeId} {ok:Bool} {x k:AV} {m kv:Value} {kt et:Nat} {es:List (AV×AV)} {key:Value} {kd:TD} {ei:TI}
  (h1:tdAt P t=some (.map kt et)) (h2:entriesOf H x=some es) (h3:keyOf k=some key) (h4:tdAt P kt=some kd) (h5:tiOf P et=some ei)
  (h6:keyFits kd key=true) (h7:keysOk kd es=true)
  (hv:(match assoc key es with|some v=>some (if ok then AV.tup [v,.bool true] else v)|none=>some (if ok then AV.tup [ei.zero,.bool false] else ei.zero))=some v)
  (hm:Rep (Imm H w) w x m) (hk:Rep (Imm H w) w k kv) (hst:St G H w) :
  ∃ u,(Instr.lookup t m kv ok).run P w=.ok u w/\Rep (Imm H w) w v u:=by
 obtain ⟨ti,i,dd,z,hi,hd⟩:=D12 h1
 obtain ⟨ki,ii,kdd,kz,hki,hkd⟩:=D12 h4
 obtain ⟨iE,dE,zE,hE⟩:=P12 h5
 cases dd<;>simp only[tdOf,reduceCtorEq] at hd
 rename_i kt0 et0
 injection hd with e1 e2
 subst e1 e2 hkd
 have hkey:=key_eq h3 hk
 subst hkey
 obtain ⟨ents,r1,r2,hcase⟩:=entries_get h2 hm hst
 have hfind:=find_assoc h6 (i:=0) r1 r2 h7
 have hz:Rep (Imm H w) w ei.zero zE:=by rw[hE.eq];exact rep_cst hE.ok
 have hck:=run_checkKey (P:=P) (w:=w) hki.und h6 ents.isEmpty 9999
 have hfk:∀ r,Instr.findNow kdd kv ents.toList 0=some r->(Instr.findKey kt0 kv ents.toList).run P w=.ok r w:=by
  intro r hr
  simp only[Instr.findKey,Sem.run_bind,run_underlying' hki.und,Result.andThen,hr,Sem.run_pure]
 have fin:∀ r:Value×Bool,(match assoc kv es with
   |some v=>∃ j u,Instr.findNow kdd kv ents.toList 0=some (some (j,u))/\r=(u,true)
   |none=>Instr.findNow kdd kv ents.toList 0=some none/\r=(zE,false)) ->
   (Instr.lookup t m kv ok).run P w=.ok (if ok then .tuple #[r.1,.bool r.2] else r.1) w:=by
  intro r hr
  rcases hcase with ⟨rfl,rfl⟩|⟨rr,c,rfl,hg⟩
  ·unfold Instr.lookup
   cases ha:assoc kv es with
   |some v=>
    rw[ha] at hr
    obtain ⟨j,u,e1,rfl⟩:=hr
    simp only[Sem.run_bind,run_underlying' hi.und,Result.andThen,Sem.run_pure,hck,hfk _ e1]
    try (cases ok<;>rfl)
   |none=>
    rw[ha] at hr
    obtain ⟨e1,rfl⟩:=hr
    simp only[Sem.run_bind,run_underlying' hi.und,Result.andThen,Sem.run_pure,hck,hfk _ e1,run_zeroValue' hE]
    try (cases ok<;>rfl)
  ·unfold Instr.lookup
   cases ha:assoc kv es with
   |some v=>
    rw[ha] at hr
    obtain ⟨j,u,e1,rfl⟩:=hr
    simp only[Sem.run_bind,run_underlying' hi.und,Result.andThen,Sem.run_pure,hck,hfk _ e1,run_getMap hg]
    try (cases ok<;>rfl)
   |none=>
    rw[ha] at hr
    obtain ⟨e1,rfl⟩:=hr
    simp only[Sem.run_bind,run_underlying' hi.und,Result.andThen,Sem.run_pure,hck,hfk _ e1,run_zeroValue' hE,run_getMap hg]
    try (cases ok<;>rfl)
 cases ha:assoc kv es with
 |some v'=>
  rw[ha] at hv hfind fin
  simp only[Option.some.injEq] at hv
  subst hv
  obtain ⟨j,u,e1,e2⟩:=hfind
  refine ⟨_,fin (u,true) ⟨j,u,e1,rfl⟩,?_⟩
  cases ok
  ·exact e2
  ·exact rep_tup2 e2 (.val _ trivial)
 |none=>
  rw[ha] at hv hfind fin
  simp only[Option.some.injEq] at hv
  subst hv
  refine ⟨_,fin (zE,false) ⟨hfind,rfl⟩,?_⟩
  cases ok
  ·exact hz
  ·exact rep_tup2 hz (.val _ trivial)
theorem struct_field {dd:TypeDesc} {i off sz:Nat} {ag:Bool} {ti:TI} {ii:TypeInfo} {z:Value} {t:TypeId} (hi:TIs P t ti ii dd z) (h:fieldOf ti i=some (off,sz,ag)) :
  ∃ (fs:Array Field) (f:Field) (j:TypeInfo) (fd:TypeDesc),dd=.struct fs/\fs[i]?=some f/\f.offset=off/\P.info? f.type=some j/\j.size=sz/\P.underlying f.type=some fd/\isAggB P f.type=ag:=by
 unfold fieldOf at h
 rw[hi.eq] at h
 cases dd<;>simp only[tdOf,reduceCtorEq] at h
 rename_i fs
 rw[List.getElem?_map] at h
 cases hf:fs.toList[i]? with
 |none=>rw[hf] at h;cases h
 |some f=>
  rw[hf] at h
  simp only[Option.map_some,Option.some.injEq,Prod.mk.injEq] at h
  obtain ⟨e1,e2,e3⟩:=h
  have hall:=hi.all
  simp only[allInfo,List.all_eq_true,Bool.and_eq_true] at hall
  obtain ⟨a1,a2⟩:=hall f (List.mem_of_getElem? hf)
  obtain ⟨j,hj⟩:=Option.isSome_iff_exists.1 a1
  obtain ⟨fd,hfd⟩:=Option.isSome_iff_exists.1 a2
  exact ⟨fs,f,j,fd,rfl,by simpa using hf,e1,hj,by simpa[szOf,hj] using e2,hfd,e3⟩
theorem run_isAggB {t:TypeId} {d:TypeDesc} (h:P.underlying t=some d):(isAgg t).run P w=.ok (isAggB P t) w:=by
 simp only[isAgg,Sem.run_bind,run_underlying h,Result.andThen,isAggB,h]
 cases d<;>rfl
theorem run_sizeOf2 {t:TypeId} {i:TypeInfo} (h:P.info? t=some i):(sizeOf t).run P w=.ok i.size w:=by
 simp[sizeOf,run_typeInfo _ h,Result.andThen]
theorem quiet_field {t:TypeId} {i off sz:Nat} {ag:Bool} {cs:List AV} {x:Value} (h:(tiOf P t).bind (fieldOf · i)=some (off,sz,ag)) (hr:Rep (Imm H w) w (.agg cs) x)
  (hv:(if ag then (if off+sz<=cs.length then some (AV.agg ((cs.drop off).take sz)) else none) else cs[off]?)=some v) :
  ∃ u,(Instr.field t x i).run P w=.ok u w/\Rep (Imm H w) w v u:=by
 cases ht:tiOf P t with
 |none=>rw[ht] at h;cases h
 |some ti=>
  rw[ht] at h
  obtain ⟨ii,dd,z,hi⟩:=P12 ht
  obtain ⟨fs,f,j,fd,rfl,hf,rfl,hj,rfl,hfd,rfl⟩:=struct_field hi h
  cases hr with
  |agg h1 h2=>
   rename_i vs
   simp only[Instr.field,Sem.run_bind,run_underlying' hi.und,Result.andThen,hf,asAgg,Sem.run_pure,part,run_isAggB hfd]
   cases ha:isAggB P f.type with
   |true=>
    rw[ha,if_pos rfl] at hv
    split at hv
    ·simp only[Option.some.injEq] at hv
     subst hv
     simp only[if_true,Sem.run_bind,run_sizeOf2 hj,Result.andThen,Sem.run_pure]
     refine ⟨_,rfl,?_⟩
     have e:vs.toArray.extract f.offset (f.offset+j.size)=((vs.drop f.offset).take j.size).toArray:=by
      apply Array.ext'
      simp[List.extract_eq_take_drop]
     rw[e]
     exact .agg (fun u hu=>h1 u (List.mem_of_mem_drop (List.mem_of_mem_take hu))) ((h2.drop _).take _)
    ·cases hv
   |false=>
    rw[ha,if_neg (by simp)] at hv
    obtain ⟨u,e1,e2⟩:=h2.get _ _ hv
    refine ⟨u,?_,e2⟩
    simp only[Bool.false_eq_true,if_false]
    have:vs.toArray[f.offset]?=some u:=by simpa using e1
    simp only[this,Sem.run_pure]
theorem quiet_fieldAddr {t:TypeId} {i off sz:Nat} {ag:Bool} {ad:Addr} (h:(tiOf P t).bind (fieldOf · i)=some (off,sz,ag)) (hz:sz≠0) :
  (Instr.fieldAt t (.pointer (some ad)) i).run P w=.ok (.pointer (some (ad.add off))) w:=by
 cases ht:tiOf P t with
 |none=>rw[ht] at h;cases h
 |some ti=>
  rw[ht] at h
  obtain ⟨ii,dd,z,hi⟩:=P12 ht
  obtain ⟨fs,f,j,fd,rfl,hf,rfl,hj,rfl,hfd,rfl⟩:=struct_field hi h
  simp only[Instr.fieldAt,Sem.run_bind,run_underlying' hi.und,Result.andThen,hf,Instr.sureAddr,Sem.run_pure,fieldPlace,run_sizeOf2 hj,if_neg hz]
theorem rep_ref_drop {cs:List AV} {p:Value} (h:Rep (Imm H w) w (.ref cs) p) (n:Nat):∃ ad,p=.pointer (some ad)/\Rep (Imm H w) w (.ref (cs.drop n)) (.pointer (some (ad.add n))):=by
 cases h with
 |ref h1 h2 h3 h4 h5=>exact ⟨_,rfl,.ref (fun hn=>by rw[Addr.add_block];exact h1 (by rintro rfl;simp at hn)) (add_spot h2 n) (h3.drop h2 n) (fun u hu=>h4 u (List.mem_of_mem_drop hu)) (h5.drop n)⟩
theorem R11 {t e sz:Nat} (h:tdAt P t=some (.slice e sz)):P.underlying t=some (.slice e)/\(sizeOf e).run P w=.ok sz w:=by
 obtain ⟨ti,i,dd,z,hi,hd⟩:=D12 h
 cases dd<;>simp only[tdOf,reduceCtorEq] at hd
 injection hd with e1 e2
 subst e1
 have:=hi.all
 simp only[allInfo] at this
 obtain ⟨j,hj⟩:=Option.isSome_iff_exists.1 this
 refine ⟨hi.und,?_⟩
 rw[run_sizeOf2 hj]
 simp only[szOf,hj] at e2
 rw[e2]
theorem arr_info {t n e sz:Nat} (h:tdAt P t=some (.arr n e sz)):P.underlying t=some (.array n e)/\(sizeOf e).run P w=.ok sz w:=by
 obtain ⟨ti,i,dd,z,hi,hd⟩:=D12 h
 cases dd<;>simp only[tdOf,reduceCtorEq] at hd
 injection hd with e0 e1 e2
 subst e0 e1
 have:=hi.all
 simp only[allInfo] at this
 obtain ⟨j,hj⟩:=Option.isSome_iff_exists.1 this
 refine ⟨hi.und,?_⟩
 rw[run_sizeOf2 hj]
 simp only[szOf,hj] at e2
 rw[e2]
theorem rep_elem {xs:List AV} {s:Value} {i:Nat} {x:AV} (hr:Rep (Imm H w) w (.list xs) s) (hx:xs[i]?=some x) :
  ∃ ad cap,s=.slice (some ad) xs.length cap/\Rep (Imm H w) w (.ref x.cells) (.pointer (some (ad.add (i*x.cells.length)))):=by
 cases hr with
 |nil a cap=>simp at hx
 |list h1 h2 h3 h4 h5 h6 h7 h8=>
  rename_i vs ad cap sz
  have hz:=h3 x (List.mem_of_getElem? hx)
  subst hz
  have he:=row_elem h8 h3 hx
  exact ⟨ad,cap,rfl,.ref (fun hn=>by rw[Addr.add_block];exact h1 (by rintro rfl;simp at hn)) (add_spot h2 _) (((h4.drop h2 _)).take _) (fun u hu=>h5 u (List.mem_of_mem_drop (List.mem_of_mem_take hu))) he⟩
theorem quiet_indexAddr {t e sz:Nat} {xs:List AV} {s:Value} {k:IntKind} {i:Int} {x:AV} (ht:tdAt P t=some (.slice e sz)) (hr:Rep (Imm H w) w (.list xs) s) (h0:0<=i)
  (hx:xs[i.toNat]?=some x) (hz:x.cells.length=sz):∃ u,(Instr.indexAt t s (.int k i)).run P w=.ok u w/\Rep (Imm H w) w (.ref x.cells) u:=by
 obtain ⟨ad,cap,rfl,hrep⟩:=rep_elem hr hx
 obtain ⟨hu,hs⟩:=R11 (w:=w) ht
 have hlt:i.toNat<xs.length:=(List.getElem?_eq_some_iff.1 hx).1
 refine ⟨_,?_,hrep⟩
 simp only[Instr.indexAt,asIntOf,Sem.run_bind,Sem.run_pure,Result.andThen,run_underlying hu,Bool.and_false,Sem.run_ite,hs]
 rw[if_pos ⟨h0,by omega⟩,hz]
theorem quiet_indexAddr_m {t e sz b n cap:Nat} {s:Value} {k:IntKind} {i:Int} (ht:tdAt P t=some (.slice e sz)) (hr:Rep (Imm H w) w (.mlist b n cap) s) (h0:0<=i) (h1:i<n) :
  ∃ u,(Instr.indexAt t s (.int k i)).run P w=.ok u w/\Rep (Imm H w) w (.elem b i.toNat sz 0) u:=by
 cases hr
 obtain ⟨hu,hs⟩:=R11 (w:=w) ht
 refine ⟨_,?_,.elem _ _ _ _⟩
 simp only[Instr.indexAt,asIntOf,Sem.run_bind,Sem.run_pure,Result.andThen,run_underlying hu,Bool.and_false,Sem.run_ite,hs]
 rw[if_pos ⟨h0,h1⟩,D11]
 simp
theorem quiet_indexAddr_a {t len e sz:Nat} {cs:List AV} {s:Value} {k:IntKind} {i:Int} (ht:tdAt P t=some (.arr len e sz)) (hr:Rep (Imm H w) w (.ref cs) s) (h0:0<=i) (h1:i<len) :
  ∃ u,(Instr.indexAt t s (.int k i)).run P w=.ok u w/\Rep (Imm H w) w (.ref (cs.drop (i.toNat*sz))) u:=by
 obtain ⟨ad,rfl,hrep⟩:=rep_ref_drop hr (i.toNat*sz)
 obtain ⟨hu,hs⟩:=arr_info (w:=w) ht
 refine ⟨_,?_,hrep⟩
 simp only[Instr.indexAt,asIntOf,Sem.run_bind,Sem.run_pure,Result.andThen,run_underlying hu,Instr.sureAddr,Sem.run_ite,hs]
 rw[if_pos ⟨h0,h1⟩]
theorem td_str {t:TypeId} (h:tdAt P t=some .str):P.underlying t=some .string:=by
 obtain ⟨ti,i,dd,z,hi,hd⟩:=D12 h
 cases dd<;>simp only[tdOf,reduceCtorEq] at hd
 exact hi.und
theorem td_int {t:TypeId} {k:IntKind} (h:tdAt P t=some (.int k)):P.underlying t=some (.int k):=by
 obtain ⟨ti,i,dd,z,hi,hd⟩:=D12 h
 cases dd<;>simp only[tdOf,reduceCtorEq] at hd
 injection hd with e;subst e
 exact hi.und
theorem td_map {t a b:Nat} (h:tdAt P t=some (.map a b)):P.underlying t=some (.map a b):=by
 obtain ⟨ti,i,dd,z,hi,hd⟩:=D12 h
 cases dd<;>simp only[tdOf,reduceCtorEq] at hd
 injection hd with e e';subst e e'
 exact hi.und
theorem td_any {t:TypeId} {d:TD} (h:tdAt P t=some d):∃ dd,P.underlying t=some dd:=by
 obtain ⟨ti,i,dd,z,hi,hd⟩:=D12 h
 exact ⟨dd,hi.und⟩
theorem Y10 {k:IntKind} {i:Int} {y:Nat} {c:BoundsCode} (h0:0<=i) (h1:i<=y):(Instr.sliceBound (.int k i) y c).run P w=.ok i.toNat w:=by
 simp only[Instr.sliceBound,asIntOf,Sem.run_bind,Sem.run_pure,Result.andThen,Sem.run_ite]
 rw[if_pos ⟨h0,h1⟩]
theorem R13 (s:ByteArray) (a b:Nat):(s.extract a b).size<=s.size:=by
 rw[ByteArray.size_extract];omega
theorem quiet_slice_str {t:TypeId} {s:ByteArray} {lo hi mx:Option AV} {l h m:Option Value} (ht:tdAt P t=some .str) (hs:s.size<=lim)
  (hv:vslice lo hi mx (.val (.string s))=some v) (hl:∀ a,lo=some a->∃ x,l=some x/\Rep (Imm H w) w a x) (hln:lo=none->l=none)
  (hh:∀ a,hi=some a->∃ x,h=some x/\Rep (Imm H w) w a x) (hhn:hi=none->h=none) (hmn:mx=none->m=none) :
  ∃ u,(Instr.sliceAt t (.string s) l h m).run P w=.ok u w/\Rep (Imm H w) w v u:=by
 have hu:=td_str ht
 unfold vslice at hv
 simp only at hv
 split at hv
 ·cases hln rfl;cases hhn rfl;cases hmn rfl
  simp only[Option.some.injEq] at hv;subst hv
  refine ⟨.string (s.extract 0 s.size),?_,.val _ (Nat.le_trans (R13 _ _ _) hs)⟩
  simp[Instr.sliceAt,Instr.slice,run_underlying hu,Result.andThen,Instr.sliceBounds]
 ·cases hhn rfl;cases hmn rfl
  obtain ⟨x,rfl,hx⟩:=hl _ rfl
  cases hx.val_eq
  split at hv
  ·rename_i hb
   simp only[Option.some.injEq] at hv;subst hv
   refine ⟨_,?_,.val _ (Nat.le_trans (R13 _ _ _) hs)⟩
   simp[Instr.sliceAt,Instr.slice,run_underlying hu,Result.andThen,Instr.sliceBounds,Y10 hb.1 hb.2]
  ·cases hv
 ·cases hln rfl;cases hmn rfl
  obtain ⟨x,rfl,hx⟩:=hh _ rfl
  cases hx.val_eq
  split at hv
  ·rename_i hb
   simp only[Option.some.injEq] at hv;subst hv
   refine ⟨_,?_,.val _ (Nat.le_trans (R13 _ _ _) hs)⟩
   simp[Instr.sliceAt,Instr.slice,run_underlying hu,Result.andThen,Instr.sliceBounds,Y10 hb.1 hb.2]
  ·cases hv
 ·cases hmn rfl
  obtain ⟨x,rfl,hx⟩:=hl _ rfl
  obtain ⟨y,rfl,hy⟩:=hh _ rfl
  cases hx.val_eq;cases hy.val_eq
  split at hv
  ·rename_i hb
   simp only[Option.some.injEq] at hv;subst hv
   refine ⟨_,?_,.val _ (Nat.le_trans (R13 _ _ _) hs)⟩
   have h1:(0:Int)<=_:=Int.le_trans hb.1 hb.2.1
   simp[Instr.sliceAt,Instr.slice,run_underlying hu,Result.andThen,Instr.sliceBounds,Y10 h1 hb.2.2,Y10 hb.1 (show _<=((_:Nat):Int) by rw[Int.toNat_of_nonneg h1];exact hb.2.1)]
  ·cases hv
 ·cases hv
theorem rep_sub {xs:List AV} {a:Option Addr} {cap l m:Nat} (hr:Rep (Imm H w) w (.list xs) (.slice a xs.length cap)) (hl:l<=m) (hm:m<=xs.length) (sz:Nat) (hz:∀ x∈xs,x.cells.length=sz) :
  Rep (Imm H w) w (.list ((xs.take m).drop l)) (.slice (if cap=l then a else a.map (·.add (l*sz))) (m-l) (cap-l)):=by
 have hlen:((xs.take m).drop l).length=m-l:=by simp;omega
 by_cases he:m-l=0
 ·have:(xs.take m).drop l=[]:=List.eq_nil_of_length_eq_zero (by omega)
  rw[this,he];exact .nil _ _
 ·generalize hn:xs.length=n at hr
  cases hr with
  |nil a cap=>omega
  |list h1 h2 h3 h4 h5 h6 h7 h8=>
   rename_i vs ad sz'
   have hsz:sz'=sz:=by
    cases xs with
    |nil=>exfalso;simp at hm;omega
    |cons x xs=>rw[<-h3 x (by simp),hz x (by simp)]
   subst hsz
   rw[if_neg (by omega)]
   simp only[Option.map_some]
   rw[<-hlen]
   refine .list (vs:=(vs.drop (l*sz')).take ((m-l)*sz')) (sz:=sz') (fun hn=>by rw[Addr.add_block];exact h1 (by rintro rfl;simp at hn)) (add_spot h2 _) ?_ ((h4.drop h2 _).take _) ?_ (by omega) (by omega) ?_
   ·intro x hx;exact hz x (List.mem_of_mem_take (List.mem_of_mem_drop hx))
   ·intro u hu;exact h5 u (List.mem_of_mem_drop (List.mem_of_mem_take hu))
   ·have hd:=h8.drop (l*sz')
    rw[flat_drop hz] at hd
    have e:(xs.take m).drop l=(xs.drop l).take (m-l):=by rw[List.drop_take]
    rw[e]
    have hz':∀ x∈xs.drop l,x.cells.length=sz':=fun x hx=>hz x (List.mem_of_mem_drop hx)
    have hsplit:flat (xs.drop l)=flat ((xs.drop l).take (m-l))++flat ((xs.drop l).drop (m-l)):=by rw[<-flat_append,List.take_append_drop]
    rw[hsplit] at hd
    have:=hd.of_append.1
    rwa [F12 (fun x hx=>hz' x (List.mem_of_mem_take hx)),List.length_take,List.length_drop,Nat.min_eq_left (by omega)] at this
theorem rep_list_form {xs:List AV} {s:Value} (hr:Rep (Imm H w) w (.list xs) s):∃ a cap,s=.slice a xs.length cap/\(xs=[]\/(xs.length<=cap/\∃ sz,∀ x∈xs,x.cells.length=sz)):=by
 cases hr with
 |nil a cap=>exact ⟨a,cap,rfl,.inl rfl⟩
 |list h1 h2 h3 h4 h5 h6 h7 h8=>exact ⟨_,_,rfl,.inr ⟨h6,_,h3⟩⟩
theorem quiet_slice_list {t e sz:Nat} {xs:List AV} {s:Value} {lo hi mx:Option AV} {l h m:Option Value} (ht:tdAt P t=some (.slice e sz)) (hr:Rep (Imm H w) w (.list xs) s)
  (hz:∀ x∈xs,x.cells.length=sz)
  (hv:vslice lo hi mx (.list xs)=some v) (hl:∀ a,lo=some a->∃ x,l=some x/\Rep (Imm H w) w a x) (hln:lo=none->l=none)
  (hh:∀ a,hi=some a->∃ x,h=some x/\Rep (Imm H w) w a x) (hhn:hi=none->h=none) (hm:∀ a,mx=some a->∃ x,m=some x/\Rep (Imm H w) w a x) (hmn:mx=none->m=none) :
  ∃ u,(Instr.sliceAt t s l h m).run P w=.ok u w/\Rep (Imm H w) w v u:=by
 obtain ⟨hu,hs⟩:=R11 (w:=w) ht
 obtain ⟨a,cap,rfl,hcap⟩:=rep_list_form hr
 unfold vslice at hv
 simp only at hv
 split at hv
 ·cases hhn rfl;cases hmn rfl
  obtain ⟨x,rfl,hx⟩:=hl _ rfl
  cases hx.val_eq
  split at hv
  ·rename_i i hb
   simp only[Option.some.injEq] at hv;subst hv
   have hi0:i.toNat<=xs.length:=by omega
   refine ⟨_,?_,by have:=rep_sub hr hi0 (Nat.le_refl _) sz hz;rwa [List.take_length] at this⟩
   simp only[Instr.sliceAt,Instr.slice,Sem.run_bind,run_underlying hu,Result.andThen,Instr.sliceBounds,Y10 hb.1 hb.2,Sem.run_pure,hs]
  ·cases hv
 ·cases hln rfl;cases hmn rfl
  obtain ⟨x,rfl,hx⟩:=hh _ rfl
  cases hx.val_eq
  split at hv
  ·rename_i i hb
   simp only[Option.some.injEq] at hv;subst hv
   have hi0:i.toNat<=xs.length:=by omega
   have hic:i<=cap:=by
    rcases hcap with rfl|⟨h1,_⟩
    ·have:=hb.2;simp at this;omega
    ·omega
   refine ⟨_,?_,by have:=rep_sub hr (Nat.zero_le _) hi0 sz hz;simpa using this⟩
   simp only[Instr.sliceAt,Instr.slice,Sem.run_bind,run_underlying hu,Result.andThen,Instr.sliceBounds,Y10 hb.1 hic,Sem.run_pure,hs]
   by_cases hc:cap=0
   ·simp[hc]
   ·simp[hc,Addr.add]
  ·cases hv
 ·cases hmn rfl
  obtain ⟨x,rfl,hx⟩:=hl _ rfl
  obtain ⟨y,rfl,hy⟩:=hh _ rfl
  cases hx.val_eq;cases hy.val_eq
  split at hv
  ·rename_i i _ j hb
   simp only[Option.some.injEq] at hv;subst hv
   have hj0:j.toNat<=xs.length:=by omega
   have hic:j<=cap:=by
    rcases hcap with rfl|⟨h1,_⟩
    ·have:=hb.2.2;simp at this;omega
    ·omega
   refine ⟨_,?_,rep_sub hr (by omega) hj0 sz hz⟩
   have h1:(0:Int)<=j:=by omega
   simp only[Instr.sliceAt,Instr.slice,Sem.run_bind,run_underlying hu,Result.andThen,Instr.sliceBounds,Y10 h1 hic,
    Y10 hb.1 (show i<=((j.toNat:Nat):Int) by omega),Sem.run_pure,hs]
  ·cases hv
 ·cases hln rfl
  obtain ⟨x,rfl,hx⟩:=hh _ rfl
  obtain ⟨y,rfl,hy⟩:=hm _ rfl
  cases hx.val_eq;cases hy.val_eq
  simp only[Option.some.injEq] at hv;subst hv
  have e:∀ k1 k2:IntKind,∃ a',(Instr.sliceAt t (.slice a xs.length cap) none (some (.int k1 0)) (some (.int k2 0))).run P w=.ok (.slice a' 0 0) w:=fun k1 k2=>⟨_,by
   simp only[Instr.sliceAt,Instr.slice,Sem.run_bind,run_underlying hu,Result.andThen,Instr.sliceBounds,Y10 (Int.le_refl 0) (Int.natCast_nonneg cap),
    Y10 (Int.le_refl 0) (show (0:Int)<=(((0:Int).toNat:Nat):Int) by simp),Sem.run_pure,hs]
   rfl⟩
  obtain ⟨a',e⟩:=e _ _
  exact ⟨_,e,.nil0 _⟩
 ·cases hv
theorem quiet_slice_nil0 {t e sz:Nat} {s:Value} {lo hi mx:Option AV} {l h m:Option Value} (ht:tdAt P t=some (.slice e sz)) (hr:Rep (Imm H w) w .nil0 s)
  (hv:vslice lo hi mx .nil0=some v) (hln:lo=none->l=none)
  (hh:∀ a,hi=some a->∃ x,h=some x/\Rep (Imm H w) w a x) (hm:∀ a,mx=some a->∃ x,m=some x/\Rep (Imm H w) w a x) (hmn:mx=none->m=none) :
  ∃ u,(Instr.sliceAt t s l h m).run P w=.ok u w/\Rep (Imm H w) w v u:=by
 obtain ⟨hu,hs⟩:=R11 (w:=w) ht
 cases hr with
 |nil0 a=>
 unfold vslice at hv
 simp only at hv
 split at hv
 ·cases hln rfl
  obtain ⟨x,rfl,hx⟩:=hh _ rfl
  obtain ⟨y,rfl,hy⟩:=hm _ rfl
  cases hx.val_eq;cases hy.val_eq
  simp only[Option.some.injEq] at hv;subst hv
  have e:∀ k1 k2:IntKind,∃ a',(Instr.sliceAt t (.slice a 0 0) none (some (.int k1 0)) (some (.int k2 0))).run P w=.ok (.slice a' 0 0) w:=fun k1 k2=>⟨_,by
   simp only[Instr.sliceAt,Instr.slice,Sem.run_bind,run_underlying hu,Result.andThen,Instr.sliceBounds,Y10 (Int.le_refl 0) (show (0:Int)<=((0:Nat):Int) by simp),
    Y10 (Int.le_refl 0) (show (0:Int)<=(((0:Int).toNat:Nat):Int) by simp),Sem.run_pure,hs]
   rfl⟩
  obtain ⟨a',e⟩:=e _ _
  exact ⟨_,e,.nil0 _⟩
 ·cases hln rfl;cases hmn rfl
  obtain ⟨x,rfl,hx⟩:=hh _ rfl
  cases hx.val_eq
  simp only[Option.some.injEq] at hv;subst hv
  have e:∀ k1 k2:IntKind,∃ a',(Instr.sliceAt t (.slice a 0 0) none (some (.int k1 0)) none).run P w=.ok (.slice a' 0 0) w:=fun k1 k2=>⟨_,by
   simp only[Instr.sliceAt,Instr.slice,Sem.run_bind,run_underlying hu,Result.andThen,Instr.sliceBounds,Y10 (Int.le_refl 0) (show (0:Int)<=((0:Nat):Int) by simp),Sem.run_pure,hs]
   rfl⟩
  obtain ⟨a',e⟩:=e _ .i64
  exact ⟨_,e,.nil0 _⟩
 ·cases hv
theorem set_run {off:Nat}:∀ (ws:List Value) (k:Nat) (cs:List Value),off+k+ws.length<=cs.length ->
  (ws.zipIdx k).foldl (fun cs p=>cs.set (off+p.2) p.1) cs=cs.take (off+k)++ws++cs.drop (off+k+ws.length)
 |[],k,cs,_=>by simp
 |x::ws,k,cs,h=>by
  simp only[List.length_cons] at h
  rw[List.zipIdx_cons,List.foldl_cons,set_run ws (k+1) _ (by simp;omega)]
  have hlt:off+k<(cs.set (off+k) x).length:=by simp;omega
  rw[show off+(k+1)=off+k+1 from by omega,List.take_succ_eq_append_getElem hlt,List.drop_set_of_lt (by omega),List.take_set_of_le (Nat.le_refl _),List.getElem_set_self]
  simp only[List.length_cons,List.append_assoc,List.cons_append,List.nil_append]
  congr 4;omega
theorem fill_toList {off:Nat}:∀ (ws:List (Value×Nat)) (cs:Array Value),(ws.foldl (fun cs (c,j)=>cs.setIfInBounds (off+j) c) cs).toList=ws.foldl (fun cs p=>cs.set (off+p.2) p.1) cs.toList
 |[],cs=>rfl
 |(x,j)::ws,cs=>by rw[List.foldl_cons,List.foldl_cons,fill_toList ws];simp
theorem run_places (fs:List Field) (h:∀ f∈fs,(P.info? f.type).isSome=true) (acc:List (Nat×Nat)) :
  (fs.mapM (fun f=>do pure (f.offset,<-sizeOf f.type):Field->Sem (Nat×Nat))).run P w=.ok (fs.map fun f=>(f.offset,szOf P f.type)) w:=by
 induction fs with
 |nil=>rfl
 |cons f fs ih=>
  obtain ⟨i,hi⟩:=Option.isSome_iff_exists.1 (h f (by simp))
  rw[List.mapM_cons]
  simp only[Sem.run_bind,run_sizeOf2 hi,Result.andThen,Sem.run_pure,ih (fun g hg=>h g (by simp[hg])),List.map_cons,szOf,hi]
theorem fill_build {I:Nat->Prop} {fs:List (Nat×Nat×Bool)} {place:Nat->Option (Nat×Nat)} (hp:∀ i,place i=(fs[i]?).map fun x=>(x.1,x.2.1)) :
  ∀ (parts:List (Nat×AV)) (ps:List (Nat×Value)) (z:List AV) (zc:Array Value),parts.map (·.1)=ps.map (·.1)->RepL I w (parts.map (·.2)) (ps.map (·.2)) ->
   RepL I w z zc.toList->(∀ u∈zc.toList,u.oneCell'=true)->vval.vbuild fs z parts=some v->∃ cells,Instr.fill place zc ps=some cells/\Rep I w v (.agg cells)
 |[],[],z,zc,_,_,hz,h1,h=>by
  simp only[vval.vbuild,Option.some.injEq] at h;subst h
  exact ⟨zc,rfl,by have:=Rep.agg h1 hz;simpa using this⟩
 |[],_::_,_,_,h,_,_,_,_=>by simp at h
 |_::_,[],_,_,h,_,_,_,_=>by simp at h
 |(i,a)::parts,(j,x)::ps,z,zc,hm,hr,hz,h1,h=>by
  simp only[List.map_cons,List.cons.injEq] at hm
  obtain ⟨rfl,hm⟩:=hm
  cases hr with
  |cons hr1 hr2=>
   unfold vval.vbuild at h
   cases hf:fs[i]? with
   |none=>rw[hf] at h;cases h
   |some q=>
    obtain ⟨off,sz,ag⟩:=q
    rw[hf] at h
    simp only at h
    split at h
    ·rename_i hc
     obtain ⟨c1,c2,c3⟩:=hc
     have hsz:x.cells.size=sz:=by rw[<-c1,hr1.size]
     have hzl:=hz.length
     have hle:¬ (x.cells.size≠sz\/off+x.cells.size > zc.size):=by
      have:zc.size=zc.toList.length:=by simp
      omega
     have hcells:=hr1.cells
     unfold Instr.fill
     rw[hp,hf]
     simp only[Option.map_some]
     rw[if_neg (by simpa using hle)]
     have hset:(x.cells.zipIdx.foldl (fun cs (c,j)=>cs.setIfInBounds (off+j) c) zc).toList=zc.toList.take off++x.cells.toList++zc.toList.drop (off+x.cells.toList.length):=by
      rw[<-Array.foldl_toList,Array.toList_zipIdx,fill_toList,set_run _ 0 _ (by simp;omega)]
      simp
     have hlen:x.cells.toList.length=sz:=by simpa using hsz
     rw[hlen] at hset
     refine fill_build hp parts ps _ _ hm hr2 ?_ ?_ h
     ·rw[hset]
      exact ((hz.take off).append hcells).append (hz.drop _)
     ·rw[hset]
      intro u hu
      simp only[List.mem_append] at hu
      rcases hu with (hu|hu)|hu
      ·exact h1 u (List.mem_of_mem_take hu)
      ·exact hr1.one c3 u hu
      ·exact h1 u (List.mem_of_mem_drop hu)
    ·cases h
theorem quiet_build {t:TypeId} {ti:TI} {fs:List (Nat×Nat×Bool)} {z:List AV} {parts:List (Nat×AV)} {ps:Array (Nat×Value)} (ht:tiOf P t=some ti) (hd:ti.d=.struct fs) (hz:ti.zero=.agg z)
  (hv:vval.vbuild fs z parts=some v) (hm:parts.map (·.1)=ps.toList.map (·.1)) (hr:RepL (Imm H w) w (parts.map (·.2)) (ps.toList.map (·.2))) :
  ∃ u,(Instr.build t ps).run P w=.ok u w/\Rep (Imm H w) w v u:=by
 obtain ⟨ii,dd,zz,hi⟩:=P12 ht
 rw[hi.eq] at hd hz
 simp only at hd hz
 cases dd<;>simp only[tdOf,reduceCtorEq] at hd
 rename_i fields
 injection hd with hd
 subst hd
 have hzr:=rep_cst (I:=Imm H w) (w:=w) hi.ok
 rw[hz] at hzr
 have hall:=hi.all
 simp only[allInfo,List.all_eq_true,Bool.and_eq_true] at hall
 cases hzc:zz with
 |agg zc=>
  rw[hzc] at hzr
  have e:∃ vs,zc=vs.toArray/\RepL (Imm H w) w z vs/\∀ u∈vs,u.oneCell'=true:=by
   generalize hg:Value.agg zc=g at hzr
   cases hzr with
   |agg h1 h2=>injection hg with hg;exact ⟨_,hg,h2,h1⟩
  obtain ⟨vs,rfl,h2,h1⟩:=e
  obtain ⟨cells,e1,e2⟩:=fill_build (place:=fun i=>(fields.map fun f=>(f.offset,szOf P f.type))[i]?) (by
   intro i
   simp only[List.getElem?_map,Array.getElem?_map]
   cases hf:fields[i]? with
   |none=>simp[hf]
   |some f=>simp[hf]) parts ps.toList z vs.toArray hm hr h2 h1 hv
  refine ⟨_,?_,e2⟩
  have hpl:(fields.mapM (fun f=>do pure (f.offset,<-sizeOf f.type):Field->Sem (Nat×Nat))).run P w=.ok (fields.map fun f=>(f.offset,szOf P f.type)) w:=by
   obtain ⟨l⟩:=fields
   simp only[List.mapM_toArray,Sem.run_map,run_places (P:=P) (w:=w) l (fun f hf=>(hall f hf).1) [],Result.andThen]
   simp
  simp only[Instr.build,Sem.run_bind,run_zeroValue' hi,hzc,Result.andThen,run_underlying hi.und,hpl,Value.cells,e1,Sem.run_pure]
 |_=>
  rw[hzc] at hzr
  cases hzr
theorem vval_quiet (hv:vval P ρ H o=some v):VQuiet P G ρ H o v:=by
 refine quiet_of fun ρc w ho hst=>?_
 unfold vval at hv
 split at hv
 ·-- move
  rename_i x hop
  simp only[Option.some.injEq] at hv;subst hv
  exact ⟨_,by simp only[execOp,hop,Sem.run_pure],ho x (by simp[hop,Op.operands])⟩
 ·rename_i x hop
  simp only[Option.some.injEq] at hv;subst hv
  exact ⟨_,by simp only[execOp,hop,Sem.run_pure],ho x (by simp[hop,Op.operands])⟩
 ·-- pick
  rename_i c a b hop
  split at hv
  ·rename_i t hc
   have h1:=ho c (by simp[hop,Op.operands])
   rw[hc] at h1
   have h1:=h1.val_eq
   simp only[Option.some.injEq] at hv;subst hv
   refine ⟨if t then ρc a else ρc b,by simp only[execOp,hop,h1,asBool,Sem.run_bind,Sem.run_pure,Result.andThen],?_⟩
   cases t
   ·exact ho b (by simp[hop,Op.operands])
   ·exact ho a (by simp[hop,Op.operands])
  ·cases hv
 ·-- load
  rename_i t x hop
  split at hv
  ·rename_i ti cs ht hc
   obtain ⟨ad,vs,e1,e2,e3,e4,e5⟩:=cellsAt_reads hc (ho x (by simp[hop,Op.operands])) hst
   obtain ⟨u,e6,e7⟩:=run_loadVar_ldv (w:=w) ht hv e3 e4 e5
   exact ⟨u,by simp only[execOp,hop,e1,Instr.loadAt,Instr.sureAddr,Sem.run_bind,Sem.run_pure,Result.andThen,e6],e7⟩
  ·cases hv
 ·-- nilCheck
  rename_i x hop
  have hx:=ho x (by simp[hop,Op.operands])
  generalize hp:ρc x=p at hx
  have fin:∀ (ad:Addr),p=.pointer (some ad)->(execOp ρc o).run P w=.ok (.value (.pointer (some ad))) w:=by
   intro ad e
   simp only[execOp,hop,hp,e,Sem.run_pure]
  split at hv<;>simp only[reduceCtorEq,Option.some.injEq] at hv<;>rename_i e<;>rw[e] at hx<;>subst hv<;>cases hx
  ·exact ⟨_,fin _ rfl,.ref ‹_› ‹_› ‹_› ‹_› ‹_›⟩
  ·exact ⟨_,fin _ rfl,.addr _ _⟩
  ·exact ⟨_,fin _ rfl,.elem _ _ _ _⟩
 ·-- binOp
  rename_i op t x y yt hop
  obtain ⟨u,e1,e2⟩:=quiet_bin (X:=x) (Y:=y) hv (ho x (by simp[hop,Op.operands])) (ho y (by simp[hop,Op.operands]))
  exact ⟨u,by simp only[execOp,hop];rw[Sem.run_bind];rw[e1];rfl,e2⟩
 ·-- unOp
  rename_i op t x hop
  have hx:=ho x (by simp[hop,Op.operands])
  split at hv<;>simp only[reduceCtorEq,Option.some.injEq] at hv<;>rename_i e<;>rw[e] at hx<;>subst hv<;>have hx:=hx.val_eq
  ·exact ⟨_,by simp only[execOp,hop,hx,Op.unary,Sem.run_bind,Sem.run_pure,Result.andThen],.val _ trivial⟩
  ·exact ⟨_,by simp only[execOp,hop,hx,Op.unary,Op.intArith,Sem.run_bind,Sem.run_pure,Result.andThen],.val _ trivial⟩
 ·-- convert
  rename_i src dst x hop
  have hx:=ho x (by simp[hop,Op.operands])
  split at hv
  ·rename_i d k k' n hs hd e
   simp only[Option.some.injEq] at hv;subst hv
   rw[e] at hx;have hx:=hx.val_eq
   obtain ⟨ds,hds⟩:=td_any hs
   exact ⟨_,by simp only[execOp,hop,hx,convert,Sem.run_bind,run_underlying hds,run_underlying (td_int hd),Result.andThen,Conv.intToInt,Sem.run_pure],.val _ trivial⟩
  ·rename_i d s hs hd e
   simp only[Option.some.injEq] at hv;subst hv
   rw[e] at hx
   generalize hp:ρc x=p at hx
   cases hx with
   |val _ hok=>
    obtain ⟨ds,hds⟩:=td_any hs
    exact ⟨.string s,by simp only[execOp,hop,hp,convert,Sem.run_bind,run_underlying hds,run_underlying (td_str hd),Result.andThen,Sem.run_pure],.val _ hok⟩
  ·rename_i d k n hs hd e
   split at hv
   ·rename_i hle
    simp only[Option.some.injEq] at hv;subst hv
    rw[e] at hx;have hx:=hx.val_eq
    obtain ⟨ds,hds⟩:=td_any hs
    exact ⟨_,by simp only[execOp,hop,hx,convert,Sem.run_bind,run_underlying hds,run_underlying (td_str hd),Result.andThen,Conv.intToString,Sem.run_pure],.val _ hle⟩
   ·cases hv
  ·cases hv
 ·-- fieldAddr
  rename_i t x i hop
  have hx:=ho x (by simp[hop,Op.operands])
  split at hv
  ·rename_i off fz ag cs hf e
   split at hv
   ·cases hv
   ·rename_i hz
    simp only[Option.some.injEq] at hv;subst hv
    rw[e] at hx
    obtain ⟨ad,e1,e2⟩:=rep_ref_drop hx off
    exact ⟨_,by simp only[execOp,hop,e1,Sem.run_bind,quiet_fieldAddr hf hz,Result.andThen,Sem.run_pure],e2⟩
  ·rename_i off fz ag b o hf e
   split at hv
   ·cases hv
   ·rename_i hz
    simp only[Option.some.injEq] at hv;subst hv
    rw[e] at hx
    generalize hp:ρc x=p at hx
    cases hx
    exact ⟨.pointer (some ⟨b,o+off,none⟩),by simp only[execOp,hop,hp,Sem.run_bind,quiet_fieldAddr hf hz,Result.andThen,Sem.run_pure,D11],.addr _ _⟩
  ·rename_i off fz ag b i sz o hf e
   split at hv
   ·cases hv
   ·rename_i hz
    simp only[Option.some.injEq] at hv;subst hv
    rw[e] at hx
    generalize hp:ρc x=p at hx
    cases hx
    exact ⟨.pointer (some ⟨b,i*sz+(o+off),none⟩),by simp only[execOp,hop,hp,Sem.run_bind,quiet_fieldAddr hf hz,Result.andThen,Sem.run_pure,D11,Nat.add_assoc],.elem _ _ _ _⟩
  ·cases hv
 ·-- field
  rename_i t x i hop
  have hx:=ho x (by simp[hop,Op.operands])
  split at hv
  ·rename_i off sz cs hf e
   rw[e] at hx
   obtain ⟨u,e1,e2⟩:=quiet_field hf hx (by rw[if_pos rfl];exact hv)
   exact ⟨u,by simp only[execOp,hop,Sem.run_bind,e1,Result.andThen,Sem.run_pure],e2⟩
  ·rename_i off sz cs hf e
   rw[e] at hx
   obtain ⟨u,e1,e2⟩:=quiet_field hf hx (by rw[if_neg (by simp)];exact hv)
   exact ⟨u,by simp only[execOp,hop,Sem.run_bind,e1,Result.andThen,Sem.run_pure],e2⟩
  ·cases hv
 ·-- indexAddr
  rename_i t x i hop
  have hx:=ho x (by simp[hop,Op.operands])
  have hi:=ho i (by simp[hop,Op.operands])
  split at hv
  ·rename_i e0 sz xs k n ht ex ei
   rw[ex] at hx;rw[ei] at hi;have hi:=hi.val_eq
   split at hv
   ·rename_i h0
    cases hxx:xs[n.toNat]? with
    |none=>rw[hxx] at hv;cases hv
    |some el=>
     rw[hxx] at hv
     simp only[Option.bind_some] at hv
     split at hv
     ·rename_i hsz
      simp only[Option.some.injEq] at hv;subst hv
      obtain ⟨u,e1,e2⟩:=quiet_indexAddr (k:=k) ht hx h0 hxx hsz
      exact ⟨u,by simp only[execOp,hop,hi,Sem.run_bind,e1,Result.andThen,Sem.run_pure],e2⟩
     ·cases hv
   ·cases hv
  ·rename_i e0 sz b m cap k n ht ex ei
   rw[ex] at hx;rw[ei] at hi;have hi:=hi.val_eq
   split at hv
   ·rename_i h0
    simp only[Option.some.injEq] at hv;subst hv
    obtain ⟨u,e1,e2⟩:=quiet_indexAddr_m (k:=k) ht hx h0.1 h0.2
    exact ⟨u,by simp only[execOp,hop,hi,Sem.run_bind,e1,Result.andThen,Sem.run_pure],e2⟩
   ·cases hv
  ·rename_i len e0 sz cs k n ht ex ei
   rw[ex] at hx;rw[ei] at hi;have hi:=hi.val_eq
   split at hv
   ·rename_i h0
    simp only[Option.some.injEq] at hv;subst hv
    obtain ⟨u,e1,e2⟩:=quiet_indexAddr_a (k:=k) ht hx h0.1 h0.2
    exact ⟨u,by simp only[execOp,hop,hi,Sem.run_bind,e1,Result.andThen,Sem.run_pure],e2⟩
   ·cases hv
  ·cases hv
 ·-- index
  rename_i t x i hop
  have hx:=ho x (by simp[hop,Op.operands])
  have hi:=ho i (by simp[hop,Op.operands])
  split at hv
  ·rename_i s k n ht ex ei
   rw[ex] at hx;rw[ei] at hi;have hi:=hi.val_eq;have hx:=hx.val_eq
   split at hv
   ·rename_i h0
    cases hs:s[n.toNat]? with
    |none=>rw[hs] at hv;cases hv
    |some c=>
     rw[hs] at hv
     simp only[Option.map_some,Option.some.injEq] at hv;subst hv
     exact ⟨_,by simp only[execOp,hop,hi,hx,Instr.index,asIntOf,Sem.run_bind,Sem.run_pure,Result.andThen,run_underlying (td_str ht),if_pos h0,hs],.val _ trivial⟩
   ·cases hv
  ·cases hv
 ·-- slice
  rename_i t x lo hi mx hop
  have hx:=ho x (by simp[hop,Op.operands])
  have hl:∀ a,lo.map ρ=some a->∃ u,lo.map ρc=some u/\Rep (Imm H w) w a u:=by
   intro a ha
   cases lo with
   |none=>cases ha
   |some q=>simp only[Option.map_some,Option.some.injEq] at ha;subst ha;exact ⟨_,rfl,ho q (by simp[hop,Op.operands])⟩
  have hh:∀ a,hi.map ρ=some a->∃ u,hi.map ρc=some u/\Rep (Imm H w) w a u:=by
   intro a ha
   cases hi with
   |none=>cases ha
   |some q=>simp only[Option.map_some,Option.some.injEq] at ha;subst ha;exact ⟨_,rfl,ho q (by simp[hop,Op.operands])⟩
  have hm:∀ a,mx.map ρ=some a->∃ u,mx.map ρc=some u/\Rep (Imm H w) w a u:=by
   intro a ha
   cases mx with
   |none=>cases ha
   |some q=>simp only[Option.map_some,Option.some.injEq] at ha;subst ha;exact ⟨_,rfl,ho q (by simp[hop,Op.operands])⟩
  have hln:lo.map ρ=none->lo.map ρc=none:=by cases lo<;>simp
  have hhn:hi.map ρ=none->hi.map ρc=none:=by cases hi<;>simp
  have hmn:mx.map ρ=none->mx.map ρc=none:=by cases mx<;>simp
  split at hv
  ·rename_i s ht ex
   rw[ex] at hx
   generalize hp:ρc x=p at hx
   cases hx with
   |val _ hok=>
    obtain ⟨u,e1,e2⟩:=quiet_slice_str ht hok hv hl hln hh hhn hmn
    exact ⟨u,by simp only[execOp,hop,hp,Sem.run_bind,e1,Result.andThen,Sem.run_pure],e2⟩
  ·rename_i e0 sz xs ht ex
   rw[ex] at hx
   split at hv
   ·rename_i hz
    obtain ⟨u,e1,e2⟩:=quiet_slice_list ht hx hz hv hl hln hh hhn hm hmn
    exact ⟨u,by simp only[execOp,hop,Sem.run_bind,e1,Result.andThen,Sem.run_pure],e2⟩
   ·cases hv
  ·rename_i e0 sz ht ex
   rw[ex] at hx
   obtain ⟨u,e1,e2⟩:=quiet_slice_nil0 ht hx hv hln hh hm hmn
   exact ⟨u,by simp only[execOp,hop,Sem.run_bind,e1,Result.andThen,Sem.run_pure],e2⟩
  ·cases hv
 ·-- lookup
  rename_i t x k ok hop
  split at hv
  ·rename_i kt et es key h1 h2 h3
   split at hv
   ·rename_i kd ei h4 h5
    split at hv
    ·rename_i hc
     simp only[Bool.and_eq_true] at hc
     obtain ⟨u,e1,e2⟩:=quiet_lookup h1 h2 h3 h4 h5 hc.1 hc.2 hv (ho x (by simp[hop,Op.operands])) (ho k (by simp[hop,Op.operands])) hst
     exact ⟨u,by simp only[execOp,hop,Sem.run_bind,e1,Result.andThen,Sem.run_pure],e2⟩
    ·cases hv
   ·cases hv
  ·cases hv
 ·-- extract
  rename_i x i hop
  have hx:=ho x (by simp[hop,Op.operands])
  split at hv
  ·rename_i vs e
   rw[e] at hx
   generalize hp:ρc x=p at hx
   cases hx with
   |tup h=>
    obtain ⟨u,e1,e2⟩:=h.get _ _ hv
    refine ⟨u,?_,e2⟩
    simp only[execOp,hop,hp,Instr.extract,Sem.run_bind,Result.andThen]
    simp[e1]
  ·cases hv
 ·-- build
  rename_i t parts hop
  split at hv
  ·rename_i ti ht
   split at hv
   ·rename_i fs z hd hz
    obtain ⟨u,e1,e2⟩:=quiet_build (ps:=parts.map fun (i,x)=>(i,ρc x)) ht hd hz hv (by simp[Function.comp_def]) (by
     simp only[Array.toList_map,List.map_map]
     refine RepL.map_ _ _ _ fun q hq=>ho q.2 ?_
     simp only[hop,Op.operands]
     simp only[List.mem_toArray,List.mem_map]
     exact ⟨q,hq,rfl⟩)
    exact ⟨u,by simp only[execOp,hop,Sem.run_bind,e1,Result.andThen,Sem.run_pure],e2⟩
   ·cases hv
  ·cases hv
 ·-- makeFunc
  rename_i fn first cap hop
  simp only[Option.some.injEq] at hv;subst hv
  refine ⟨.func fn (first.map ρc) (cap.map ρc),by simp only[execOp,hop,Instr.makeFunc,Sem.run_bind,Sem.run_pure,Result.andThen],?_⟩
  have h1:=RepL.map_ (I:=Imm H w) (w:=w) ρ ρc first.toList fun q hq=>ho q (by simp[hop,Op.operands];exact .inl (by simpa using hq))
  have h2:=RepL.map_ (I:=Imm H w) (w:=w) ρ ρc cap.toList fun q hq=>ho q (by simp[hop,Op.operands];exact .inr (by simpa using hq))
  have:=Rep.func (fn:=fn) h1 h2
  rw[<-@Array.toArray_toList _ (first.map ρc),<-@Array.toArray_toList _ (cap.map ρc),Array.toList_map,Array.toList_map]
  exact this
 ·-- makeInterface
  rename_i t x hop
  split at hv
  ·cases hv
  ·cases hv
  ·cases hv
  ·rename_i d h1 h2 hd
   simp only[Option.some.injEq] at hv;subst hv
   obtain ⟨ti,i,dd,z,hi,hdd⟩:=D12 hd
   refine ⟨.iface t (ρc x),?_,.iface (ho x (by simp[hop,Op.operands]))⟩
   simp only[execOp,hop,Instr.makeInterface,Sem.run_bind,run_underlying hi.und,Result.andThen]
   cases dd<;>first|(simp only[Sem.run_pure];done)|(simp only[tdOf] at hdd;exact absurd hdd.symm h1)
 ·-- calls of built-in functions
  rename_i c hop
  have fin:∀ (b:Builtin) (argTypes:Array TypeId) (u:Value),c.callee=.builtin b->(∀ cc,(builtin b c.argTypes o.type cc (c.args.map ρc)).run P w=.ok (.value u) w) ->
    (execOp ρc o).run P w=.ok (.value u) w:=by
   intro b argTypes u hb h
   simp only[execOp,hop,resolve,hb,Sem.run_bind,Sem.run_pure,Result.andThen,invoke,h]
  have mem:∀ x∈c.args.toList,Rep (Imm H w) w (ρ x) (ρc x):=fun x hx=>ho x (by simp[hop,Op.operands,Call.operands];exact .inr (by simpa using hx))
  split at hv
  ·rename_i hb
   split at hv
   ·rename_i x t hx ht
    have hxr:=mem x (by rw[hx];simp)
    have ha:c.args.map ρc = #[ρc x]:=by rw[<-@Array.toArray_toList _ (c.args.map ρc),Array.toList_map,hx];rfl
    have hta:c.argTypes = #[t]:=by rw[<-@Array.toArray_toList _ c.argTypes,ht]
    have run:∀ u,(Builtin.len_ #[t] o.type #[ρc x]).run P w=.ok u w->(execOp ρc o).run P w=.ok (.value u) w:=by
     intro u hu
     refine fin .len c.argTypes u hb fun cc=>?_
     simp only[builtin,ha,hta,Sem.run_bind,hu,Result.andThen,Sem.run_pure]
    split at hv
    ·rename_i s hd e
     simp only[Option.some.injEq] at hv;subst hv
     rw[e] at hxr;have hxr:=hxr.val_eq
     exact ⟨_,run _ (by simp only[Builtin.len_,hxr];simp[run_underlying (td_str hd),Result.andThen];rfl),.val _ trivial⟩
    ·rename_i e0 sz xs hd e
     simp only[Option.some.injEq] at hv;subst hv
     rw[e] at hxr
     obtain ⟨a,cap,hp,_⟩:=rep_list_form hxr
     exact ⟨_,run _ (by simp only[Builtin.len_,hp];simp[run_underlying (R11 (w:=w) hd).1,Result.andThen];rfl),.val _ trivial⟩
    ·rename_i e0 sz hd e
     simp only[Option.some.injEq] at hv;subst hv
     rw[e] at hxr
     generalize hp:ρc x=p at hxr
     cases hxr
     exact ⟨_,run _ (by simp only[Builtin.len_,hp];simp[run_underlying (R11 (w:=w) hd).1,Result.andThen];rfl),.val _ trivial⟩
    ·rename_i e0 sz b n cap hd e
     simp only[Option.some.injEq] at hv;subst hv
     rw[e] at hxr
     generalize hp:ρc x=p at hxr
     cases hxr
     exact ⟨_,run _ (by simp only[Builtin.len_,hp];simp[run_underlying (R11 (w:=w) hd).1,Result.andThen];rfl),.val _ trivial⟩
    ·rename_i a b hd e
     simp only[Option.some.injEq] at hv;subst hv
     rw[e] at hxr;have hxr:=hxr.val_eq
     exact ⟨_,run _ (by simp only[Builtin.len_,hxr];simp[run_underlying (td_map hd),Result.andThen];rfl),.val _ trivial⟩
    ·rename_i a b es hd e
     simp only[Option.some.injEq] at hv;subst hv
     rw[e] at hxr
     generalize hp:ρc x=p at hxr
     cases hxr with
     |imap h1 h2 h0 h3 h4=>
      have hl:=h3.length
      refine ⟨_,run _ (by simp only[Builtin.len_,hp];simp[run_underlying (td_map hd),Result.andThen,run_getMap h2];rfl),?_⟩
      simp at hl
      rw[hl]
      exact .val _ trivial
    ·rename_i a b bb hd e
     split at hv
     ·rename_i es hb'
      simp only[Option.some.injEq] at hv;subst hv
      rw[e] at hxr
      generalize hp:ρc x=p at hxr
      cases hxr
      obtain ⟨ents,c',h2,h3,h4⟩:=hst.obj _ _ hb'
      have hl:=h3.length
      refine ⟨_,run _ (by simp only[Builtin.len_,hp];simp[run_underlying (td_map hd),Result.andThen,run_getMap h2];rfl),?_⟩
      simp at hl
      rw[hl]
      exact .val _ trivial
     ·cases hv
    ·cases hv
   ·cases hv
  ·rename_i hb
   split at hv
   ·rename_i k x k' y hx
    split at hv
    ·rename_i hk
     simp only[Option.some.injEq] at hv;subst hv hk
     have hr:=RepL.map_ (I:=Imm H w) (w:=w) ρ ρc c.args.toList mem
     rw[hx] at hr
     have ha:c.args.map ρc = #[.int k x,.int k y]:=by
      rw[<-@Array.toArray_toList _ (c.args.map ρc),Array.toList_map]
      generalize c.args.toList.map ρc=l at hr
      cases hr with|cons a hr=>cases hr with|cons b hr=>cases hr;rw[a.val_eq,b.val_eq]
     exact ⟨_,fin .min c.argTypes _ hb (fun cc=>by simp only[builtin,ha,Builtin.min_];simp[Builtin.min2,Result.andThen]),.val _ trivial⟩
    ·cases hv
   ·cases hv
  ·rename_i hb
   split at hv
   ·rename_i k x k' y hx
    split at hv
    ·rename_i hk
     simp only[Option.some.injEq] at hv;subst hv hk
     have hr:=RepL.map_ (I:=Imm H w) (w:=w) ρ ρc c.args.toList mem
     rw[hx] at hr
     have ha:c.args.map ρc = #[.int k x,.int k y]:=by
      rw[<-@Array.toArray_toList _ (c.args.map ρc),Array.toList_map]
      generalize c.args.toList.map ρc=l at hr
      cases hr with|cons a hr=>cases hr with|cons b hr=>cases hr;rw[a.val_eq,b.val_eq]
     exact ⟨_,fin .max c.argTypes _ hb (fun cc=>by simp only[builtin,ha,Builtin.max_];simp[Builtin.max2,Result.andThen]),.val _ trivial⟩
    ·cases hv
   ·cases hv
  ·cases hv
 ·cases hv
end
section
variable {P:Program} {G:GT} {ρ:Operand->AV} {H:HM} {o:Oper} {v:AV} {w:World}
theorem setCell_put {b off:Nat} {arr:Array Value} {t:TypeId} {x:Value} (h:w.heap[b]?=some (.cells arr t (0,0))) :
  w.setCell ⟨b,off,none⟩ x=w.putObj b (.cells (arr.setIfInBounds off x) t (0,0)):=by
 unfold World.setCell World.putObj
 congr 1
 refine Array.ext_getElem? fun i=>?_
 rw[Array.getElem?_modify,Array.getElem?_setIfInBounds]
 by_cases e:b=i
 ·subst e
  obtain ⟨hlt,hv⟩:=Array.getElem?_eq_some_iff.1 h
  simp[hv,hlt]
 ·simp[e]
theorem putObj_putObj {b:Nat} {x y:Obj}:(w.putObj b x).putObj b y=w.putObj b y:=by
 simp[World.putObj]
theorem T12 {b:Nat} {t:TypeId}:∀ (vs:List Value) (i off:Nat) (arr:Array Value) (w:World),w.heap[b]?=some (.cells arr t (0,0))->off+i+vs.length<=arr.size ->
  (∀ u∈vs,u.oneCell'=true) ->
  (storeCells ⟨b,off,none⟩ vs i).run P w=.ok () (w.putObj b (.cells ((vs.zipIdx i).foldl (fun cs (c,j)=>cs.setIfInBounds (off+j) c) arr) t (0,0)))
 |[],i,off,arr,w,h,_,_=>by
  simp only[storeCells,Sem.run_pure,List.zipIdx_nil,List.foldl_nil]
  congr 1
  unfold World.putObj
  obtain ⟨hlt,hv⟩:=Array.getElem?_eq_some_iff.1 h
  have:w.heap.setIfInBounds b (.cells arr t (0,0))=w.heap:=by
   refine Array.ext_getElem? fun k=>?_
   rw[Array.getElem?_setIfInBounds]
   by_cases e:b=k
   ·subst e;simp[hv,hlt]
   ·simp[e]
  rw[this]
 |x::vs,i,off,arr,w,h,hle,h1=>by
  simp only[List.length_cons] at hle
  have hc:w.cell? ⟨b,off+i,none⟩=some (arr[off+i]'(by omega)):=by
   rw[G12 h,Array.getElem?_eq_getElem (by omega)]
  have hx:=h1 x (by simp)
  have hlt:=(Array.getElem?_eq_some_iff.1 h).1
  have hw:(w.putObj b (.cells (arr.setIfInBounds (off+i) x) t (0,0))).heap[b]?=some (.cells (arr.setIfInBounds (off+i) x) t (0,0)):=World.putObj_heap_same hlt
  have ih:=T12 vs (i+1) off (arr.setIfInBounds (off+i) x) _ hw (by simp;omega) fun u hu=>h1 u (by simp[hu])
  simp only[storeCells,Sem.run_bind,D11,run_store P w _ x _ hx,hc,frozen_block h,Bool.false_eq_true,if_false,Result.andThen]
  rw[setCell_put h,ih,putObj_putObj]
  simp[List.zipIdx_cons]
theorem St.put_cells {b:Nat} {ao:AObj} {x:Obj} (h:St G H w) (hb:H b≠none)
  (hn:RepO (Imm (H.upd b ao) (w.putObj b x)) (w.putObj b x) b ao):St G (H.upd b ao) (w.putObj b x)/\Evo H w (H.upd b ao) (w.putObj b x):=by
 have hk:∀ k,k≠b->(w.putObj b x).heap[k]?=w.heap[k]?:=fun k hk=>World.putObj_heap_other hk
 have he:Evo H w (H.upd b ao) (w.putObj b x):=evo_set rfl rfl rfl (by simp) hk hb
 exact ⟨h.set he hk hn,he⟩
def splice (cs:List AV) (off:Nat) (new:List AV):List AV:=cs.take off++new++cs.drop (off+new.length)
theorem set_range {arr:Array Value} {off:Nat} {ws:List Value} (h:off+ws.length<=arr.size) :
  ((ws.zipIdx 0).foldl (fun cs (c,j)=>cs.setIfInBounds (off+j) c) arr)=(arr.toList.take off++ws++arr.toList.drop (off+ws.length)).toArray:=by
 apply Array.ext'
 rw[fill_toList,set_run _ 0 _ (by simpa using h)]
 simp
theorem store_cells {t et b off:Nat} {ti:TI} {cs:List AV} {a x:AV} {av xv:Value} (ht:tiOf P t=some ti) (hb:H b=some (.cells et cs)) (hx:Rep (Imm H w) w x xv)
  (hl:x.cells.length=ti.size) (ho:off+ti.size<=cs.length) (h1:x.one=true) (hst:St G H w) :
  ∃ w',(Instr.storeAt t (.pointer (some ⟨b,off,none⟩)) xv).run P w=.ok () w'/\St G (H.upd b (.cells et (splice cs off x.cells))) w'/\Evo H w (H.upd b (.cells et (splice cs off x.cells))) w':=by
 obtain ⟨i,d,z,hi⟩:=P12 ht
 obtain ⟨vs,e1,e2,e3⟩:=hst.obj _ _ hb
 have hsz:xv.cells.size=ti.size:=by rw[<-hx.size];exact hl
 have hvl:=e2.length
 have hle:off+xv.cells.toList.length<=vs.toArray.size:=by simp;omega
 have hrun:=T12 (P:=P) xv.cells.toList 0 off vs.toArray w e1 (by simpa using hle) (hx.one h1)
 rw[set_range hle] at hrun
 refine ⟨w.putObj b (.cells (vs.toArray.toList.take off++xv.cells.toList++vs.toArray.toList.drop (off+xv.cells.toList.length)).toArray et (0,0)),?_,?_⟩
 ·simp only[Instr.storeAt,Instr.sureAddr,storeVar,Sem.run_bind,Sem.run_pure,Result.andThen,run_sizeOf' hi,hsz,ne_eq,not_true_eq_false,if_false,hrun,Sem.run_ite]
 ·have hlt:=(Array.getElem?_eq_some_iff.1 e1).1
  have he:Evo H w (H.upd b (.cells et (splice cs off x.cells))) (w.putObj b (.cells (vs.toArray.toList.take off++xv.cells.toList++vs.toArray.toList.drop (off+xv.cells.toList.length)).toArray et (0,0))):=
   evo_set rfl rfl rfl (by simp) (fun k hk=>World.putObj_heap_other hk) (by simp[hb])
  refine St.put_cells hst (by simp[hb]) ⟨_,World.putObj_heap_same hlt,?_,?_⟩
  ·have hxc:=he.repL hx.cells
   have hcs:=he.repL e2
   have hxl:x.cells.length=xv.cells.toList.length:=by rw[hx.size];simp
   have e:vs.drop (off+xv.cells.toList.length)=vs.drop (off+x.cells.length):=by rw[hxl]
   have:=((hcs.take off).append hxc).append (hcs.drop (off+x.cells.length))
   rw[<-e] at this
   exact this
  ·intro u hu
   simp only[List.mem_append] at hu
   rcases hu with (hu|hu)|hu
   ·exact e3 u (List.mem_of_mem_take hu)
   ·exact hx.one h1 u hu
   ·exact e3 u (List.mem_of_mem_drop hu)
def elemPut (x0:AV) (off:Nat) (v:AV) (sz:Nat):Option AV:=
 if off=0/\v.cells.length=sz then some v else
  match x0 with
  |.agg cs=>if off+v.cells.length<=cs.length then some (.agg (splice cs off v.cells)) else none
  |_=>none
theorem elemPut_cells {x0 v' x:AV} {off sz:Nat} (h:elemPut x0 off x sz=some v') (h0:x0.cells.length=sz):v'.cells=splice x0.cells off x.cells/\off+x.cells.length<=sz:=by
 unfold elemPut at h
 split at h
 ·rename_i hc
  cases h
  obtain ⟨rfl,hc⟩:=hc
  refine ⟨?_,by omega⟩
  simp only[splice,List.take_zero,List.nil_append,Nat.zero_add]
  rw[List.drop_eq_nil_of_le (by omega)];simp
 ·split at h
  ·split at h
   ·rename_i hl
    cases h
    exact ⟨rfl,by simp only[AV.cells] at h0;omega⟩
   ·cases h
  ·cases h
theorem flat_set {xs:List AV} {sz i:Nat} {x0 x:AV} {off:Nat} {v':AV} (hz:∀ x∈xs,x.cells.length=sz) (h0:xs[i]?=some x0) (hv:v'.cells=splice x0.cells off x.cells)
  (hle:off+x.cells.length<=sz):flat (xs.set i v')=splice (flat xs) (i*sz+off) x.cells:=by
 induction xs generalizing i with
 |nil=>simp at h0
 |cons y ys ih=>
  have hy:=hz y (by simp)
  cases i with
  |zero=>
   simp only[List.getElem?_cons_zero,Option.some.injEq] at h0
   subst h0
   simp only[List.set_cons_zero,flat_cons,hv,splice,Nat.zero_mul,Nat.zero_add]
   rw[List.take_append_of_le_length (by omega),List.drop_append_of_le_length (by omega)]
   simp
  |succ i=>
   simp only[List.getElem?_cons_succ] at h0
   simp only[List.set_cons_succ,flat_cons]
   rw[ih (fun x hx=>hz x (by simp[hx])) h0]
   simp only[splice]
   have e:(i+1)*sz+off=y.cells.length+(i*sz+off):=by rw[hy,Nat.succ_mul];omega
   rw[e,List.take_length_add_append,Nat.add_assoc y.cells.length,List.drop_length_add_append]
   simp
theorem store_elem {t b i sz off et cap:Nat} {ti:TI} {xs:List AV} {x0 x v':AV} {xv:Value} (ht:tiOf P t=some ti) (hb:H b=some (.row et sz cap xs)) (h0:xs[i]?=some x0)
  (hv:elemPut x0 off x sz=some v') (hx:Rep (Imm H w) w x xv) (hl:x.cells.length=ti.size) (h1:x.one=true) (hst:St G H w) :
  ∃ w',(Instr.storeAt t (.pointer (some ⟨b,i*sz+off,none⟩)) xv).run P w=.ok () w'/\St G (H.upd b (.row et sz cap (xs.set i v'))) w'/\Evo H w (H.upd b (.row et sz cap (xs.set i v'))) w':=by
 obtain ⟨ii,d,z,hi⟩:=P12 ht
 obtain ⟨vs,rest,e1,e2,e3,e4,e5,e6⟩:=hst.obj _ _ hb
 have hx0:=e3 x0 (List.mem_of_getElem? h0)
 obtain ⟨c1,c2⟩:=elemPut_cells hv hx0
 have hsz:xv.cells.size=ti.size:=by rw[<-hx.size];exact hl
 have hvl:=e2.length
 rw[F12 e3] at hvl
 have hilt:i<xs.length:=(List.getElem?_eq_some_iff.1 h0).1
 have hrow:(i+1)*sz<=xs.length*sz:=Nat.mul_le_mul_right _ hilt
 rw[Nat.succ_mul] at hrow
 have hxl:x.cells.length=xv.cells.toList.length:=by rw[hx.size];simp
 have hle0:i*sz+off+xv.cells.toList.length<=vs.length:=by omega
 have hle:i*sz+off+xv.cells.toList.length<=(vs++rest).toArray.size:=by simp;simp at hle0;omega
 have hrun:=T12 (P:=P) xv.cells.toList 0 (i*sz+off) (vs++rest).toArray w e1 (by simpa using hle) (hx.one h1)
 rw[set_range hle] at hrun
 refine ⟨w.putObj b (.cells ((vs++rest).toArray.toList.take (i*sz+off)++xv.cells.toList++(vs++rest).toArray.toList.drop (i*sz+off+xv.cells.toList.length)).toArray et (0,0)),?_,?_⟩
 ·simp only[Instr.storeAt,Instr.sureAddr,storeVar,Sem.run_bind,Sem.run_pure,Result.andThen,run_sizeOf' hi,hsz,ne_eq,not_true_eq_false,if_false,hrun,Sem.run_ite]
 ·have hlt:=(Array.getElem?_eq_some_iff.1 e1).1
  have he:Evo H w (H.upd b (.row et sz cap (xs.set i v'))) (w.putObj b (.cells ((vs++rest).toArray.toList.take (i*sz+off)++xv.cells.toList++(vs++rest).toArray.toList.drop (i*sz+off+xv.cells.toList.length)).toArray et (0,0))):=
   evo_set rfl rfl rfl (by simp) (fun k hk=>World.putObj_heap_other hk) (by simp[hb])
  refine St.put_cells hst (by simp[hb]) ⟨vs.take (i*sz+off)++xv.cells.toList++vs.drop (i*sz+off+xv.cells.toList.length),rest,?_,?_,?_,?_,?_,?_⟩
  ·rw[World.putObj_heap_same hlt]
   simp only[List.take_append_of_le_length (show i*sz+off<=vs.length by omega),List.drop_append_of_le_length hle0,List.append_assoc]
  ·rw[flat_set e3 h0 c1 c2]
   have hcs:=he.repL e2
   have e:vs.drop (i*sz+off+xv.cells.toList.length)=vs.drop (i*sz+off+x.cells.length):=by rw[hxl]
   have:=((hcs.take (i*sz+off)).append (he.repL hx.cells)).append (hcs.drop (i*sz+off+x.cells.length))
   rw[<-e] at this
   exact this
  ·intro y hy
   rcases List.mem_or_eq_of_mem_set hy with hy|rfl
   ·exact e3 y hy
   ·rw[c1];simp[splice];omega
  ·intro u hu
   simp only[List.mem_append] at hu
   rcases hu with (hu|hu)|hu
   ·exact e4 u (List.mem_of_mem_take hu)
   ·exact hx.one h1 u hu
   ·exact e4 u (List.mem_of_mem_drop hu)
  ·simpa using e5
  ·simpa using e6
theorem new_cells {et:Nat} {cs:List AV} {vs:List Value} (hr:RepL (Imm H w) w cs vs) (h1:∀ u∈vs,u.oneCell'=true) (hst:St G H w) :
  St G (H.upd w.heap.size (.cells et cs)) { w with heap:=w.heap.push (.cells vs.toArray et (0,0)) } /\
  Evo H w (H.upd w.heap.size (.cells et cs)) { w with heap:=w.heap.push (.cells vs.toArray et (0,0)) }:=by
 refine ⟨hst.new ⟨vs,by simp,?_,h1⟩,T13 hst⟩
 exact (T13 (ao:=.cells et cs) hst).repL hr
theorem new_imm {et:Nat} {cs:List AV} {vs:List Value} (hr:RepL (Imm H w) w cs vs) (h1:∀ u∈vs,u.oneCell'=true) (hst:St G H w) :
  let w':World:={ w with heap:=w.heap.push (.cells vs.toArray et (0,0)) }
  St G H w'/\Evo H w H w'/\Imm H w' w.heap.size/\RepL (Imm H w') w' cs vs/\Reads w' ⟨w.heap.size,0,none⟩ vs:=by
 refine ⟨hst.push _,evo_push _ _ _,⟨by simp,hst.fresh (Nat.le_refl _)⟩,(evo_push _ _ _).repL hr,fun i v hi=>?_⟩
 rw[D11,G12 (arr:=vs.toArray) (t:=et) (fr:=(0,0)) (by simp)]
 simpa using hi
theorem run_newVar {t:Nat} {x:Value}:(newVar t x).run P w=.ok ⟨w.heap.size,0,none⟩ { w with heap:=w.heap.push (.cells x.cells t (0,0)) }:=by
 simp[newVar,newRow,Result.andThen]
def assocSet (k:Value) (v:AV):List (AV×AV)->List (AV×AV)
 |[]=>[(.val k,v)]
 |(.val u,x)::es=>if sameKeyV k u then (.val k,v)::es else (.val u,x)::assocSet k v es
 |e::es=>e::assocSet k v es
theorem ba_beq (a b:ByteArray):(a==b)=true↔a=b:=by
 cases a with|mk x=>cases b with|mk y=>
 constructor
 ·intro h
  have:x==y:=h
  simpa using this
 ·intro h;cases h;show (x==x)=true;simp
theorem sameKeyV_eq {k u:Value} {d:TD} (h1:keyFits d k=true) (h2:keyFits d u=true):sameKeyV k u=true↔k=u:=by
 cases d<;>simp only[keyFits] at h1 h2<;>try (cases h1;done)
 all_goals (cases k<;>simp only[keyFits] at h1<;>try (cases h1;done))
 all_goals (cases u<;>simp only[keyFits] at h2<;>try (cases h2;done))
 ·simp only[beq_iff_eq] at h1 h2
  simp only[sameKeyV,beq_iff_eq,Value.int.injEq]
  exact ⟨fun e=>⟨by rw[<-h1,<-h2],e⟩,fun e=>e.2⟩
 ·simp[sameKeyV]
 ·simp[sameKeyV,ba_beq]
theorem find_set {kd:TypeDesc} {key:Value} {v:AV} {x:Value} (hf:keyFits (tdOf P kd) key=true) (hkr:Rep (Imm H w) w (.val key) key) (hvr:Rep (Imm H w) w v x):∀ {es:List (AV×AV)} {ents:List MapEntry} (i:Nat),
  RepL (Imm H w) w (es.map (·.1)) (ents.map (·.key))->RepL (Imm H w) w (es.map (·.2)) (ents.map (·.val))->keysOk (tdOf P kd) es=true ->
  (∃ j u e,Instr.findNow kd key ents i=some (some (i+j,u))/\ents[j]?=some e/\e.key=key /\
   RepL (Imm H w) w ((assocSet key v es).map (·.1)) ((ents.modify j fun e=>{ e with key:=key,val:=x }).map (·.key)) /\
   RepL (Imm H w) w ((assocSet key v es).map (·.2)) ((ents.modify j fun e=>{ e with key:=key,val:=x }).map (·.val))) \/
  (Instr.findNow kd key ents i=some none/\∀ born,RepL (Imm H w) w ((assocSet key v es).map (·.1)) ((ents++[(⟨key,x,born⟩:MapEntry)]).map (·.key)) /\
   RepL (Imm H w) w ((assocSet key v es).map (·.2)) ((ents++[(⟨key,x,born⟩:MapEntry)]).map (·.val)))
 |[],[],i,_,_,_=>.inr ⟨rfl,fun born=>⟨.cons hkr .nil,.cons hvr .nil⟩⟩
 |[],_::_,i,h,_,_=>by cases h
 |_::_,[],i,h,_,_=>by cases h
 |(k,y)::es,e::ents,i,hk,hv,ho=>by
  cases hk with
  |cons hk1 hk2=>
   cases hv with
   |cons hv1 hv2=>
    simp only[keysOk,List.all_cons,Bool.and_eq_true] at ho
    cases k with
    |val u=>
     simp only at ho
     have hu:e.key=u:=hk1.val_eq
     have hs:Instr.sameNow kd key e.key=some (sameKeyV key u):=by
      rw[hu]
      have h1:=ho.1
      cases kd<;>simp only[tdOf,keyFits] at hf h1<;>try (cases hf;done)
      all_goals (cases key<;>simp only[keyFits] at hf<;>try (cases hf;done))
      all_goals (cases u<;>simp only[keyFits] at h1<;>try (cases h1;done))
      all_goals simp_all[Instr.sameNow,sameKeyV]
     cases hq:sameKeyV key u with
     |true=>
      refine .inl ⟨0,e.val,e,?_,rfl,?_,?_,?_⟩
      ·simp only[Instr.findNow,hs,hq,Nat.add_zero]
      ·rw[hu];exact ((sameKeyV_eq hf ho.1).1 hq).symm
      ·simp only[assocSet,hq,if_true];exact .cons hkr hk2
      ·simp only[assocSet,hq,if_true];exact .cons hvr hv2
     |false=>
      rcases find_set hf hkr hvr (i+1) hk2 hv2 ho.2 with ⟨j,u',e',e1,e2,e3,e4,e5⟩|⟨e1,e2⟩
      ·refine .inl ⟨j+1,u',e',?_,by simpa using e2,e3,?_,?_⟩
       ·simp only[Instr.findNow,hs,hq]
        rw[e1];congr 3;omega
       ·simp only[assocSet,hq,Bool.false_eq_true,if_false,List.modify_succ_cons];exact .cons hk1 e4
       ·simp only[assocSet,hq,Bool.false_eq_true,if_false,List.modify_succ_cons];exact .cons hv1 e5
      ·refine .inr ⟨?_,fun born=>⟨?_,?_⟩⟩
       ·simp only[Instr.findNow,hs,hq];exact e1
       ·simp only[assocSet,hq,Bool.false_eq_true,if_false];exact .cons hk1 (e2 born).1
       ·simp only[assocSet,hq,Bool.false_eq_true,if_false];exact .cons hv1 (e2 born).2
    |_=>simp at ho
theorem sameBits_key {d:TD} {k:Value} (h:keyFits d k=true) (n:Nat):Instr.sameBits n k k=true:=by
 cases d<;>simp only[keyFits] at h<;>try (cases h;done)
 all_goals (cases k<;>simp only[keyFits] at h<;>try (cases h;done))
 all_goals (cases n<;>simp[Instr.sameBits,ba_beq])
theorem Stamps.modify {ents:Array MapEntry} {clock:Nat} (h:Stamps ents clock) (j:Nat) (k x:Value):Stamps (ents.modify j fun e=>{ e with key:=k,val:=x }) clock:=by
 have e:(ents.modify j fun e=>{ e with key:=k,val:=x }).toList.map (·.born)=ents.toList.map (·.born):=by
  rw[Array.toList_modify]
  apply List.ext_getElem?
  intro i
  simp only[List.getElem?_map,List.getElem?_modify]
  split
  ·cases ents.toList[i]?<;>rfl
  ·cases ents.toList[i]?<;>rfl
 refine ⟨fun y hy=>?_,by rw[e];exact h.2⟩
 have:y.born∈(ents.modify j fun e=>{ e with key:=k,val:=x }).toList.map (·.born):=List.mem_map_of_mem hy
 rw[e] at this
 obtain ⟨z,hz,hq⟩:=List.mem_map.1 this
 rw[<-hq];exact h.1 z hz
theorem Stamps.push {ents:Array MapEntry} {clock:Nat} (h:Stamps ents clock) (k x:Value):Stamps (ents.push ⟨k,x,clock⟩) (clock+1):=by
 refine ⟨fun y hy=>?_,?_⟩
 ·simp only[Array.toList_push,List.mem_append,List.mem_singleton] at hy
  rcases hy with hy|rfl
  ·exact Nat.lt_succ_of_lt (h.1 y hy)
  ·exact Nat.lt_succ_self _
 ·simp only[Array.toList_push,List.map_append,List.map_cons,List.map_nil]
  rw[List.nodup_append]
  refine ⟨h.2,by simp,fun a ha b hb=>?_⟩
  simp only[List.mem_singleton] at hb
  obtain ⟨z,hz,rfl⟩:=List.mem_map.1 ha
  have:=h.1 z hz
  omega
theorem map_set {t kt et b:Nat} {kd:TD} {es:List (AV×AV)} {key:Value} {k v:AV} {kv x:Value} (h1:tdAt P t=some (.map kt et)) (h4:tdAt P kt=some kd) (hb:H b=some (.map es))
  (h3:keyOf k=some key) (h6:keyFits kd key=true) (h7:keysOk kd es=true) (hk:Rep (Imm H w) w k kv) (hv:Rep (Imm H w) w v x) (hst:St G H w) :
  ∃ w',(Instr.mapUpdate t (.map (some b)) kv x).run P w=.ok () w'/\St G (H.upd b (.map (assocSet key v es))) w'/\Evo H w (H.upd b (.map (assocSet key v es))) w':=by
 obtain ⟨ki,ii,kdd,kz,hki,hkd⟩:=D12 h4
 subst hkd
 have hkey:=key_eq h3 hk
 subst hkey
 have hkr:Rep (Imm H w) w (.val kv) kv:=by
  unfold keyOf at h3
  split at h3<;>(first|cases h3)<;>exact hk
 obtain ⟨ents,clock,e1,e2,e3,e4⟩:=hst.obj _ _ hb
 have hlt:=(Array.getElem?_eq_some_iff.1 e1).1
 have hck:=run_checkKey (P:=P) (w:=w) hki.und h6 false 9999
 have hfk:∀ r,Instr.findNow kdd kv ents.toList 0=some r->(Instr.findKey kt kv ents.toList).run P w=.ok r w:=by
  intro r hr
  simp only[Instr.findKey,Sem.run_bind,run_underlying' hki.und,Result.andThen,hr,Sem.run_pure]
 have hset:∀ o,(setObj b o).run P w=.ok () (w.putObj b o):=by
  intro o;simp[setObj,Sem.run,e1,World.putObj]
 have fin:∀ (ents':Array MapEntry) c',RepL (Imm H w) w ((assocSet kv v es).map (·.1)) (ents'.toList.map (·.key))->RepL (Imm H w) w ((assocSet kv v es).map (·.2)) (ents'.toList.map (·.val))->Stamps ents' c' ->
   St G (H.upd b (.map (assocSet kv v es))) (w.putObj b (.map ents' c'))/\Evo H w (H.upd b (.map (assocSet kv v es))) (w.putObj b (.map ents' c')):=by
  intro ents' c' r1 r2 r3
  have he:Evo H w (H.upd b (.map (assocSet kv v es))) (w.putObj b (.map ents' c')):=evo_set rfl rfl rfl (by simp) (fun k hk=>World.putObj_heap_other hk) (by simp[hb])
  exact St.put_cells hst (by simp[hb]) ⟨ents',c',World.putObj_heap_same hlt,he.repL r1,he.repL r2,r3⟩
 rcases find_set h6 hkr hv 0 e2 e3 h7 with ⟨j,u,e,f1,f2,f3,f4,f5⟩|⟨f1,f2⟩
 ·refine ⟨_,?_,fin (ents.modify j fun e=>{ e with key:=kv,val:=x }) clock (by simpa using f4) (by simpa using f5) (e4.modify j kv x)⟩
  rw[Nat.zero_add] at f1
  have f2':ents[j]?=some e:=by simpa using f2
  have hks:(Instr.keyThatStays kv kv).run P w=.ok kv w:=by
   simp only[Instr.keyThatStays,sameBits_key h6,if_true,Sem.run_pure]
  simp only[Instr.mapUpdate,Sem.run_bind,run_underlying' (td_map h1),Result.andThen,run_getMap e1,hck,hfk _ f1,f2',Option.map_some,Option.getD_some,f3,hks,hset]
 ·refine ⟨_,?_,fin (ents.push ⟨kv,x,clock⟩) (clock+1) (by simpa using (f2 clock).1) (by simpa using (f2 clock).2) (e4.push kv x)⟩
  simp only[Instr.mapUpdate,Sem.run_bind,run_underlying' (td_map h1),Result.andThen,run_getMap e1,hck,hfk _ f1,hset]
def srcOf (H:HM):AV->Option (List AV)
 |.list ys=>some ys
 |.nil0=>some []
 |.mlist b n cap=>match H b with
  |some (.row _ _ cap' xs)=>if xs.length=n/\cap=cap' then some xs else none
  |_=>none
 |_=>none
theorem src_get {x:AV} {xv:Value} {ys:List AV} {sz:Nat} (h:srcOf H x=some ys) (hz:∀ y∈ys,y.cells.length=sz) (hr:Rep (Imm H w) w x xv) (hst:St G H w) :
  ∃ vs,Builtin.lenOf xv=pure ys.length/\(∀ k,(Builtin.firstCells sz ys.length xv).run P { w with drawn:=k }=.ok vs.toArray { w with drawn:=k })/\RepL (Imm H w) w (flat ys) vs /\
   (∀ u∈vs,u.oneCell'=true)/\vs.length=ys.length*sz:=by
 have none:∀ (a:Option Addr) (cap:Nat) k,(Builtin.firstCells sz 0 (.slice a 0 cap)).run P { w with drawn:=k }=.ok [].toArray { w with drawn:=k }:=by
  intro a cap k
  cases a with
  |none=>rfl
  |some a=>simpa[Builtin.firstCells] using run_loadCells_list (P:=P) (w:={ w with drawn:=k }) a [] (by simp)
 unfold srcOf at h
 split at h
 ·cases h
  cases hr with
  |nil a cap=>exact ⟨[],rfl,none a cap,.nil,by simp,by simp⟩
  |list h1 h2 h3 h4 h5 h6 h7 h8=>
   rename_i vs ad cap sz'
   have hl:=h8.length
   have hl':vs.length=ys.length*sz:=by rw[<-hl,F12 hz]
   refine ⟨vs,rfl,fun k=>?_,h8,h5,hl'⟩
   have:=run_loadCells_list (P:=P) (w:={ w with drawn:=k }) ad vs h4
   rw[hl'] at this
   simpa[Builtin.firstCells] using this
 ·cases h
  cases hr with
  |nil0 a=>exact ⟨[],rfl,none a 0,.nil,by simp,by simp⟩
 ·rename_i b n cap
  split at h
  ·rename_i t sz' cap' xs hb
   split at h
   ·rename_i hc
    cases h
    cases hr
    obtain ⟨vs,rest,e1,e2,e3,e4,e5,e6⟩:=hst.obj _ _ hb
    have hl:=e2.length
    have hl':vs.length=ys.length*sz:=by rw[<-hl,F12 hz]
    refine ⟨vs,by rw[hc.1];rfl,fun k=>?_,e2,e4,hl'⟩
    have:=run_loadCells_list (P:=P) (w:={ w with drawn:=k }) ⟨b,0,Option.none⟩ vs (fun i v hi=>by
     rw[D11,G12 (w:={ w with drawn:=k }) (b:=b) e1]
     have hlt:=(List.getElem?_eq_some_iff.1 hi).1
     rw[List.getElem?_toArray,List.getElem?_append_left (by omega)]
     simpa using hi)
    rw[hl'] at this
    simpa[Builtin.firstCells] using this
   ·cases h
  ·cases h
 ·cases h
theorem run_append_fit {ts tx ty e:TypeId} {xV:Value} {xd:TypeDesc} (h1:P.underlying ts=some (.slice e)) (h2:P.underlying tx=some xd) (h3:∀ k,xd≠.int k) {base:Option Addr} {sl sc m sz:Nat}
  (hl:Builtin.lenOf xV=pure m) (hsz:(sizeOf e).run P w=.ok sz w) {news:List Value} (hn:(Builtin.firstCells sz m xV).run P w=.ok news.toArray w) (hfit:sl+m<=sc) {w':World}
  (hs:∀ a,base=some a->(storeCells (a.add (sl*sz)) news).run P w=.ok () w') (hs0:base=none->w'=w) :
  (Builtin.append_ #[ts,tx] ty #[.slice base sl sc,xV]).run P w=.ok (.slice base (sl+m) sc) w':=by
 have hx:(match xd with | .int _=>true|_=>false)=false:=by cases xd<;>first|rfl|exact absurd rfl (h3 _)
 cases base with
 |none=>
  rw[hs0 rfl]
  simp[Builtin.append_,run_underlying h1,run_underlying h2,Result.andThen,hsz,hx,hl,hfit,hn]
 |some a=>simp[Builtin.append_,run_underlying h1,run_underlying h2,Result.andThen,hsz,hx,hl,hfit,hn,hs a rfl]
theorem run_append_more {ts tx ty e:TypeId} {xV:Value} {xd:TypeDesc} {i:TypeInfo} {z:Value} (h1:P.underlying ts=some (.slice e)) (h2:P.underlying tx=some xd) (h3:∀ k,xd≠.int k) {base:Option Addr} {sl sc m:Nat}
  (hi:P.info? e=some i) (hz:i.zero=some z) (hl:Builtin.lenOf xV=pure m) {olds news:List Value} (hn:∀ k,(Builtin.firstCells i.size m xV).run P { w with drawn:=k }=.ok news.toArray { w with drawn:=k })
  (ho:∀ k,(Builtin.firstCells i.size sl (.slice base sl sc)).run P { w with drawn:=k }=.ok olds.toArray { w with drawn:=k }) (hfit:¬ sl+m<=sc) (h63:((sl+m:Nat):Int)<=9223372036854775807)
  (h48:Builtin.nextslicecap (sl+m) sc*i.bytes<=281474976710656) :
  (Builtin.append_ #[ts,tx] ty #[.slice base sl sc,xV]).run P w=.ok (.slice (some ⟨w.heap.size,0,none⟩) (sl+m) (grownCap w (sl+m) sc e))
   (w.drew.alloc (.cells (olds++news++(Builtin.zeroCells z.cells (grownCap w (sl+m) sc e-(sl+m))).toList).toArray e)):=by
 have hx:(match xd with | .int _=>true|_=>false)=false:=by cases xd<;>first|rfl|exact absurd rfl (h3 _)
 have h63':¬ (9223372036854775807<((sl:Int)+(m:Int))):=by omega
 have h48':¬ (281474976710656<Builtin.nextslicecap (sl+m) sc*i.bytes):=by omega
 have ho':(Builtin.firstCells i.size sl (.slice base sl sc)).run P w.drew=.ok olds.toArray w.drew:=ho (w.drawn+1)
 have hn':(Builtin.firstCells i.size m xV).run P w.drew=.ok news.toArray w.drew:=hn (w.drawn+1)
 simp[Builtin.append_,run_underlying h1,run_underlying h2,Result.andThen,sizeOf,typeInfo,zeroValue,hi,hz,hx,hl,hfit,h63',h48',Question.forced,hn',ho',newRow,grownCap]
 congr 2
 apply Array.ext'
 simp
theorem zeroCells_size (z:Array Value) (n:Nat):(Builtin.zeroCells z n).size=n*z.size:=by simp[Builtin.zeroCells]
theorem grownCap_ge (w:World) (need old:Nat) (e:TypeId):need<=grownCap w need old e:=by
 simp only[grownCap,Question.cut];omega
theorem append_own {ts tx ty e sz:Nat} {xd:TypeDesc} {ei:TI} {s x:AV} {sV xV:Value} {xs ys:List AV} (h1:tdAt P ts=some (.slice e sz)) (h2:P.underlying tx=some xd) (h3:∀ k,xd≠.int k)
  (he:tiOf P e=some ei) (hby:ei.bytes<=1024) (hys:srcOf H x=some ys) (hyz:∀ y∈ys,y.cells.length=sz)
  (hs:(s=.nil0/\xs=[])\/∃ b cap,s=.mlist b xs.length cap/\H b=some (.row e sz cap xs)/\x≠.mlist b xs.length cap)
  (hlim:xs.length+ys.length<=lim) (hsr:Rep (Imm H w) w s sV) (hxr:Rep (Imm H w) w x xV) (hst:St G H w) :
  ∃ u w',(Builtin.append_ #[ts,tx] ty #[sV,xV]).run P w=.ok u w' /\
   ((ys=[]/\s=.nil0/\Rep (Imm H w') w' s u/\St G H w'/\Evo H w H w') \/
    ∃ b cap,xs.length+ys.length<=cap/\(H b=none\/s=.mlist b xs.length cap)/\Rep (Imm (H.upd b (.row e sz cap (xs++ys))) w') w' (.mlist b (xs++ys).length cap) u /\
     St G (H.upd b (.row e sz cap (xs++ys))) w'/\Evo H w (H.upd b (.row e sz cap (xs++ys))) w'):=by
 obtain ⟨hu,hsz⟩:=R11 (w:=w) h1
 obtain ⟨i,d,z,hi⟩:=P12 he
 have hisz:i.size=sz:=by
  have:=run_sizeOf' (w:=w) hi
  rw[hi.eq] at this
  simp only at this
  rw[hsz] at this
  cases this;rfl
 obtain ⟨vs,l1,l2,l3,l4,l5⟩:=src_get (P:=P) hys hyz hxr hst
 have l2':=l2 w.drawn
 have hbytes:i.bytes<=1024:=by rw[hi.eq] at hby;exact hby
 have hfit48:∀ {sl sc m:Nat},sl+m<=lim->¬ sl+m<=sc->Builtin.nextslicecap (sl+m) sc*i.bytes<=281474976710656:=by
  intro sl sc m hl hf
  refine growslice_fits (by omega) ?_
  have:(sl+m)*i.bytes<=lim*1024:=Nat.mul_le_mul hl hbytes
  unfold lim at this;omega
 have h63:∀ {n:Nat},n<=lim->((n:Nat):Int)<=9223372036854775807:=by intro n hn;unfold lim at hn;omega
 -- a new row
 have more:∀ (olds:List Value) (base:Option Addr) (sc:Nat),¬ xs.length+ys.length<=sc->RepL (Imm H w) w (flat xs) olds->(∀ u∈olds,u.oneCell'=true)->(∀ q∈xs,q.cells.length=sz) ->
   (∀ k,(Builtin.firstCells i.size xs.length (.slice base xs.length sc)).run P { w with drawn:=k }=.ok olds.toArray { w with drawn:=k }) ->
   ∃ u w',(Builtin.append_ #[ts,tx] ty #[.slice base xs.length sc,xV]).run P w=.ok u w'/\∃ b cap,xs.length+ys.length<=cap/\H b=none /\
    Rep (Imm (H.upd b (.row e sz cap (xs++ys))) w') w' (.mlist b (xs++ys).length cap) u/\St G (H.upd b (.row e sz cap (xs++ys))) w'/\Evo H w (H.upd b (.row e sz cap (xs++ys))) w':=by
  intro olds base sc hf hr h1c hxz hfc
  have hrun:=run_append_more (ty:=ty) (w:=w) hu h2 h3 hi.info hi.zero l1 (by rw[hisz];exact l2) hfc hf (h63 hlim) (hfit48 hlim hf)
  have hge:=grownCap_ge w (xs.length+ys.length) sc e
  generalize hcap:grownCap w (xs.length+ys.length) sc e=cap at hrun hge
  refine ⟨_,_,hrun,w.heap.size,cap,hge,hst.fresh (Nat.le_refl _),?_,?_⟩
  ·rw[List.length_append];exact .mlist _ _ _
  ·have hst':St G H w.drew:=hst.evo (w':=w.drew) ⟨rfl,rfl,rfl,Nat.le_refl _,fun b h=>⟨h.2,rfl⟩⟩ fun b o e=>rfl
   have hev:Evo H w (H.upd w.heap.size (.row e sz cap (xs++ys))) (w.drew.alloc (.cells (olds++vs++(Builtin.zeroCells z.cells (cap-(xs.length+ys.length))).toList).toArray e)):=
    (Evo.trans (H1:=H) (w1:=w.drew) ⟨rfl,rfl,rfl,Nat.le_refl _,fun b h=>⟨h.2,rfl⟩⟩ (T13 hst'))
   refine ⟨hst'.new ⟨olds++vs,(Builtin.zeroCells z.cells (cap-(xs.length+ys.length))).toList,?_,?_,?_,?_,?_,?_⟩,hev⟩
   ·exact World.alloc_heap_new _ _
   ·rw[flat_append];exact (hev.repL hr).append (hev.repL l3)
   ·intro q hq
    rcases List.mem_append.1 hq with h|h
    ·exact hxz q h
    ·exact hyz q h
   ·intro u hu'
    rcases List.mem_append.1 hu' with h|h
    ·exact h1c u h
    ·exact l4 u h
   ·rw[Array.length_toList,zeroCells_size,hi.zsize,hisz,List.length_append,<-Nat.add_mul]
    congr 1;omega
   ·simpa using hge
 rcases hs with ⟨rfl,rfl⟩|⟨b,cap,rfl,hb,hne⟩
 ·cases hsr with
  |nil0 a=>
   by_cases hy:ys=[]
   ·subst hy
    have l2'':(Builtin.firstCells sz 0 xV).run P w=.ok vs.toArray w:=l2'
    have hv:vs=[]:=List.eq_nil_of_length_eq_zero (by simpa using l5)
    subst hv
    have:=run_append_fit (ty:=ty) (w:=w) (base:=a) (sl:=0) (sc:=0) (w':=w) hu h2 h3 l1 hsz l2'' (by simp) (fun q hq=>by simp[storeCells]) (fun _=>rfl)
    exact ⟨_,w,this,.inl ⟨rfl,rfl,.nil0 _,hst,Evo.refl _ _⟩⟩
   ·have hpos:¬ (([]:List AV).length+ys.length<=0):=by
     have:=List.length_pos_iff.2 hy;simp;omega
    obtain ⟨u,w',e1,b,cap,e2,e3,e4,e5,e6⟩:=more [] a 0 hpos .nil (by simp) (by simp) (fun k=>by
     cases a with
     |none=>rfl
     |some a=>simpa[Builtin.firstCells] using run_loadCells_list (P:=P) (w:={ w with drawn:=k }) a [] (by simp))
    exact ⟨u,w',e1,.inr ⟨b,cap,e2,.inl e3,e4,e5,e6⟩⟩
 ·cases hsr with
  |mlist b n cap=>
   obtain ⟨us,rest,f1,f2,f3,f4,f5,f6⟩:=hst.obj _ _ hb
   have hul:us.length=xs.length*sz:=by rw[<-f2.length,F12 f3]
   by_cases hfit:xs.length+ys.length<=cap
   ·-- in place
    have hmul:xs.length*sz+ys.length*sz<=cap*sz:=by rw[<-Nat.add_mul];exact Nat.mul_le_mul_right _ hfit
    have hle:xs.length*sz+vs.length<=(us++rest).toArray.size:=by simp;omega
    have hrun:=T12 (P:=P) vs 0 (xs.length*sz) (us++rest).toArray w f1 (by simpa using hle) l4
    rw[set_range hle] at hrun
    have happ:=run_append_fit (ty:=ty) (base:=some ⟨b,0,none⟩) (sl:=xs.length) (sc:=cap) hu h2 h3 l1 hsz l2' hfit (fun q hq=>by cases hq;rw[D11,Nat.zero_add];exact hrun) (fun h=>by cases h)
    have hlt:=(Array.getElem?_eq_some_iff.1 f1).1
    have hev:Evo H w (H.upd b (.row e sz cap (xs++ys))) (w.putObj b (.cells ((us++rest).toArray.toList.take (xs.length*sz)++vs++(us++rest).toArray.toList.drop (xs.length*sz+vs.length)).toArray e (0,0))):=
     evo_set rfl rfl rfl (by simp) (fun k hk=>World.putObj_heap_other hk) (by simp[hb])
    refine ⟨_,_,happ,.inr ⟨b,cap,hfit,.inr rfl,?_,?_⟩⟩
    ·rw[List.length_append];exact .mlist _ _ _
    ·refine St.put_cells hst (by simp[hb]) ⟨us++vs,rest.drop vs.length,?_,?_,?_,?_,?_,?_⟩
     ·rw[World.putObj_heap_same hlt]
      simp only[List.take_append_of_le_length (show xs.length*sz<=us.length by omega)]
      rw[<-hul,List.take_length,List.drop_length_add_append,List.append_assoc]
     ·rw[flat_append];exact (hev.repL f2).append (hev.repL l3)
     ·intro q hq
      rcases List.mem_append.1 hq with h|h
      ·exact f3 q h
      ·exact hyz q h
     ·intro u hu'
      rcases List.mem_append.1 hu' with h|h
      ·exact f4 u h
      ·exact l4 u h
     ·rw[List.length_drop,List.length_append,Nat.add_mul];omega
     ·simpa using hfit
   ·obtain ⟨u,w',e1,b',cap',e2,e3,e4,e5,e6⟩:=more us (some ⟨b,0,none⟩) cap hfit f2 f4 f3 (fun k=>by
     have:=run_loadCells_list (P:=P) (w:={ w with drawn:=k }) ⟨b,0,none⟩ us (fun i v hi=>by
      rw[D11,G12 (w:={ w with drawn:=k }) (b:=b) f1]
      have hlt:=(List.getElem?_eq_some_iff.1 hi).1
      rw[List.getElem?_toArray,List.getElem?_append_left (by omega)]
      simpa using hi)
     rw[hul] at this
     simpa[Builtin.firstCells,hisz] using this)
    exact ⟨u,w',e1,.inr ⟨b',cap',e2,.inl e3,e4,e5,e6⟩⟩
end
def isMut (M:List Nat):Option Nat->Bool
 |some d=>M.contains d
 |none=>false
def vappend (P:Program) (H:HM) (ts tx:Nat) (s x:AV) (K:ARes->HM->Prop):Prop:=
 match tdAt P ts with
 |some (.slice e sz)=>(match tdAt P tx with|some (.int _)=>False|some .other=>False|some _=>True|none=>False) /\
  match tiOf P e,srcOf H x with
  |some ei,some ys=>ei.bytes<=1024/\(∀ y∈ys,y.cells.length=sz) /\
   match s with
   |.nil0=>ys.length<=lim/\(ys=[]->K (.ret .nil0) H)/\∀ b cap,H b=none->ys.length<=cap->K (.ret (.mlist b ys.length cap)) (H.upd b (.row e sz cap ys))
   |.mlist b n cap=>match H b with
    |some (.row e' sz' cap0 xs)=>e=e'/\sz=sz'/\cap=cap0/\n=xs.length/\x≠s/\xs.length+ys.length<=lim /\
     ∀ b' cap',(H b'=none\/(b'=b/\cap'=cap))->xs.length+ys.length<=cap'->K (.ret (.mlist b' (xs++ys).length cap')) (H.upd b' (.row e sz cap' (xs++ys)))
    |_=>False
   |_=>False
  |_,_=>False
 |_=>False
def isImm (M:List Nat):Option Nat->Bool
 |some d=>M.contains (d+1000000)
 |none=>false
def vappendI (P:Program) (H:HM) (ts tx:Nat) (s x:AV) (K:ARes->HM->Prop):Prop:=
 match tdAt P ts with
 |some (.slice e sz)=>(match tdAt P tx with|some (.int _)=>False|some .other=>False|some _=>True|none=>False) /\
  match tiOf P e,srcOf H x with
  |some ei,some ys=>ei.bytes<=1024/\(∀ y∈ys,y.cells.length=sz)/\s=.nil0/\ys.length<=lim/\K (.ret (.list ys)) H
  |_,_=>False
 |_=>False
def vcopy (P:Program) (H:HM) (td:Nat) (d x:AV) (K:ARes->HM->Prop):Prop:=
 match tdAt P td with
 |some (.slice _ sz)=>match d,x with
  |.nil0,.list _=>K (.ret (.int 0)) H
  |.mlist b n cap,.list ys=>match H b with
   |some (.row e sz' cap' xs)=>sz=sz'/\n=xs.length/\xs.length<=ys.length/\(∀ y∈ys,y.cells.length=sz)/\K (.ret (.int n)) (H.upd b (.row e sz' cap' (ys.take n)))
   |_=>False
  |_,_=>False
 |_=>False
def vx (P:Program) (G:GT) (M:List Nat) (ρ:Operand->AV) (H:HM) (o:Oper) (K:ARes->HM->Prop):Prop:=
 match o.op with
 |.box t x=>(ρ x).one=true/\(if isMut M o.dst then ∀ b,H b=none->K (.ret (.addr b 0)) (H.upd b (.cells t (ρ x).cells)) else K (.ret (.ref (ρ x).cells)) H)
 |.alloc t=>match tiOf P t with
  |some ti=>ti.zero.one=true/\∀ b,H b=none->K (.ret (.addr b 0)) (H.upd b (.cells t ti.zero.cells))
  |none=>False
 |.store t a x=>match tiOf P t,ρ a with
  |some ti,.addr b off=>match H b with
   |some (.cells et cs)=>((ρ x).cells.length=ti.size/\off+ti.size<=cs.length/\(ρ x).one=true)/\K (.ret .unit) (H.upd b (.cells et (splice cs off (ρ x).cells)))
   |_=>False
  |some ti,.elem b i sz off=>match H b with
   |some (.row et sz' cap xs)=>sz=sz'/\(ρ x).cells.length=ti.size/\(ρ x).one=true /\
    match xs[i]? with
    |some x0=>match elemPut x0 off (ρ x) sz with
     |some v'=>K (.ret .unit) (H.upd b (.row et sz cap (xs.set i v')))
     |none=>False
    |none=>False
   |_=>False
  |_,_=>False
 |.buildSlice t len parts=>match tdAt P t with
  |some (.slice e sz)=>if len=0 then parts.toList=[]/\K (.ret .nil0) H else
    parts.toList.map (·.1)=List.range len/\(∀ p∈parts.toList,(ρ p.2).cells.length=sz/\(ρ p.2).one=true)/\sz≠0/\len*sz<=16777216/\(tiOf P e).isSome=true/\K (.ret (.list (parts.toList.map fun p=>ρ p.2))) H
  |_=>False
 |.makeMap t none=>∀ b,H b=none->K (.ret (.map b)) (H.upd b (.map []))
 |.mapUpdate t m k x | .insert t m k x=>match tdAt P t,ρ m,keyOf (ρ k) with
  |some (.map kt et),.map b,some key=>match tdAt P kt,H b with
   |some kd,some (.map es)=>keyFits kd key=true/\keysOk kd es=true/\K (.ret .unit) (H.upd b (.map (assocSet key (ρ x) es)))
   |_,_=>False
  |_,_,_=>False
 |.call c=>match c.callee with
  |.value f=>CallV P G (ρ f) (c.args.toList.map ρ) H K
  |.builtin .append=>match c.args.toList,c.argTypes.toList with
   |[s,x],[ts,tx]=>if isImm M o.dst then vappendI P H ts tx (ρ s) (ρ x) K else vappend P H ts tx (ρ s) (ρ x) K
   |_,_=>False
  |.builtin .copy=>match c.args.toList,c.argTypes.toList with
   |[d,x],[td,_]=>vcopy P H td (ρ d) (ρ x) K
   |_,_=>False
  |_=>match vval P ρ H o with
   |some v=>K (.ret v) H
   |none=>False
 |.panic x=>match ρ x with
  |.iface t v=>K (.pan (.iface t v)) H
  |_=>False
 |.range t x=>match tdAt P t,ρ x with
  |some .str,.val (.string s)=>∀ b,H b=none->K (.ret (.addr b 0)) (H.upd b (.siter s 0))
  |some (.map _ _),.imap es=>∀ b,H b=none->K (.ret (.addr b 0)) (H.upd b (.miter es []))
  |_,_=>False
 |.next x isS=>match ρ x with
  |.addr b 0=>match H b,isS with
   |some (.siter s pos),true=>(pos<s.size->K (.ret (.tup [.bool true,.int pos,.val (.int .i32 (Utf8.decode s pos).1)])) (H.upd b (.siter s (pos+(Utf8.decode s pos).2)))) /\
     (¬ pos<s.size->K (.ret (.tup [.bool false])) H)
   |some (.miter es seen),false=>((∀ j,j<es.length->j∈seen)->K (.ret (.tup [.bool false])) H) /\
     ∀ j e,es[j]?=some e->j∉seen->K (.ret (.tup [.bool true,e.1,e.2])) (H.upd b (.miter es (seen++[j])))
   |_,_=>False
  |_=>False
 |.entry x=>match ρ x with
  |.addr b 0=>match H b with
   |some (.miter es seen)=>∃ j e,seen.getLast?=some j/\es[j]?=some e/\K (.ret (.tup [e.1,e.2])) H
   |_=>False
  |_=>False
 |_=>match vval P ρ H o with
  |some v=>K (.ret v) H
  |none=>False
section
variable {P:Program} {G:GT} {M:List Nat} {ρ:Operand->AV} {H:HM} {o:Oper} {K:ARes->HM->Prop}
theorem vx_val {v:AV} (hv:vval P ρ H o=some v) (hk:K (.ret v) H):VX P G ρ H o K:=vval_quiet hv K hk
theorem new_row_imm {w:World} {e sz:Nat} {xs:List AV} {vs:List Value} (hr:RepL (Imm H w) w (flat xs) vs) (h1:∀ u∈vs,u.oneCell'=true) (hz:∀ x∈xs,x.cells.length=sz) (hl:xs.length<=lim) (hst:St G H w) :
  let w':World:={ w with heap:=w.heap.push (.cells vs.toArray e (0,0)) }
  St G H w'/\Evo H w H w'/\Rep (Imm H w') w' (.list xs) (.slice (some ⟨w.heap.size,0,none⟩) xs.length xs.length):=by
 obtain ⟨a1,a2,a3,a4,a5⟩:=new_imm (et:=e) hr h1 hst
 exact ⟨a1,a2,.list (ad:=⟨w.heap.size,0,none⟩) (fun _=>a3) rfl hz a5 h1 (Nat.le_refl _) hl a4⟩
theorem fill_seq {sz:Nat}:∀ (ps:List (Nat×Value)) (k:Nat) (cells:Array Value),ps.map (·.1)=List.range' k ps.length->(∀ p∈ps,p.2.cells.size=sz)->cells.size=(k+ps.length)*sz ->
  Instr.fill (fun i=>some (i*sz,sz)) cells ps=some (cells.toList.take (k*sz)++ps.flatMap (·.2.cells.toList)).toArray
 |[],k,cells,_,_,h=>by
  simp only[Instr.fill,List.flatMap_nil,List.append_nil]
  rw[List.take_of_length_le (by simp at h;simp;omega)]
 |(i,x)::ps,k,cells,hm,hz,h=>by
  simp only[List.map_cons,List.length_cons,List.range'_succ,List.cons.injEq] at hm
  obtain ⟨rfl,hm⟩:=hm
  have hx:=hz (i,x) (by simp)
  simp only at hx
  have hsz:cells.size=i*sz+sz+ps.length*sz:=by rw[h,List.length_cons,Nat.add_mul,Nat.succ_mul];omega
  have hle:i*sz+x.cells.toList.length<=cells.size:=by simp;omega
  have hset:(x.cells.zipIdx.foldl (fun cs (c,j)=>cs.setIfInBounds (i*sz+j) c) cells)=(cells.toList.take (i*sz)++x.cells.toList++cells.toList.drop (i*sz+x.cells.toList.length)).toArray:=by
   rw[<-set_range hle,<-Array.foldl_toList,Array.toList_zipIdx]
  unfold Instr.fill
  simp only
  rw[if_neg (by simp;omega),hset]
  have ih:=fill_seq ps (i+1) (cells.toList.take (i*sz)++x.cells.toList++cells.toList.drop (i*sz+x.cells.toList.length)).toArray hm (fun p hp=>hz p (by simp[hp])) (by
   simp only[List.size_toArray,List.length_append,List.length_take,List.length_drop,Array.length_toList]
   rw[Nat.add_mul,Nat.add_mul];omega)
  rw[ih]
  have e:(cells.toList.take (i*sz)++x.cells.toList++cells.toList.drop (i*sz+x.cells.toList.length)).take ((i+1)*sz)=cells.toList.take (i*sz)++x.cells.toList:=by
   rw[List.take_left' (by simp;rw[Nat.succ_mul];omega)]
  simp only[List.append_assoc] at e
  simp only[List.append_assoc,e,List.flatMap_cons]
theorem I11 (h:vx P G M ρ H o K):VX P G ρ H o K:=by
 unfold vx at h
 split at h
 ·-- box
  rename_i t x hop
  intro ρc w ho hst
  have hx:=ho x (by simp[hop,Op.operands])
  simp only[execOp,hop,Instr.box,Sem.run_bind,run_newVar,Result.andThen,Sem.run_pure,NUpon]
  have h1:=hx.one h.1
  have e:(ρc x).cells=(ρc x).cells.toList.toArray:=by simp
  rw[e]
  have h2:=h.2
  split at h2
  ·obtain ⟨a1,a2⟩:=new_cells (et:=t) hx.cells h1 hst
   exact ⟨_,_,h2 _ (hst.fresh (Nat.le_refl _)),.addr _ _,a1,a2⟩
  ·obtain ⟨a1,a2,a3,a4,a5⟩:=new_imm (et:=t) hx.cells h1 hst
   exact ⟨_,_,h2,.ref (fun _=>a3) rfl a5 h1 a4,a1,a2⟩
 ·-- alloc
  rename_i t hop
  split at h
  ·rename_i ti ht
   obtain ⟨i,d,z,hi⟩:=P12 ht
   intro ρc w ho hst
   have hz:Rep (Imm H w) w ti.zero z:=by rw[hi.eq];exact rep_cst hi.ok
   simp only[execOp,hop,Instr.alloc,Sem.run_bind,run_zeroValue' hi,run_newVar,Result.andThen,Sem.run_pure,NUpon]
   have e:z.cells=z.cells.toList.toArray:=by simp
   rw[e]
   obtain ⟨a1,a2⟩:=new_cells (et:=t) hz.cells (hz.one h.1) hst
   exact ⟨_,_,h.2 _ (hst.fresh (Nat.le_refl _)),.addr _ _,a1,a2⟩
  ·exact h.elim
 ·-- store
  rename_i t a x hop
  split at h
  ·rename_i ti b off ht ha
   split at h
   ·rename_i et cs hb
    intro ρc w ho hst
    have hx:=ho x (by simp[hop,Op.operands])
    have har:=ho a (by simp[hop,Op.operands])
    rw[ha] at har
    generalize hp:ρc a=p at har
    cases har
    obtain ⟨w',e1,e2,e3⟩:=store_cells (a:=.unit) (av:=undef) ht hb hx h.1.1 h.1.2.1 h.1.2.2 hst
    simp only[execOp,hop,hp,Sem.run_bind,e1,Result.andThen,Sem.run_pure,NUpon]
    exact ⟨_,_,h.2,Y12 _ _,e2,e3⟩
   ·exact h.elim
  ·rename_i ti b i sz off ht ha
   split at h
   ·rename_i et sz' cap xs hb
    obtain ⟨rfl,h1,h2,h3⟩:=h
    split at h3
    ·rename_i x0 hx0
     split at h3
     ·rename_i v' hv'
      intro ρc w ho hst
      have hx:=ho x (by simp[hop,Op.operands])
      have har:=ho a (by simp[hop,Op.operands])
      rw[ha] at har
      generalize hp:ρc a=p at har
      cases har
      obtain ⟨w',e1,e2,e3⟩:=store_elem ht hb hx0 hv' hx h1 h2 hst
      simp only[execOp,hop,hp,Sem.run_bind,e1,Result.andThen,Sem.run_pure,NUpon]
      exact ⟨_,_,h3,Y12 _ _,e2,e3⟩
     ·exact h3.elim
    ·exact h3.elim
   ·exact h.elim
  ·exact h.elim
 ·-- buildSlice
  rename_i t len parts hop
  split at h
  ·rename_i e sz ht
   intro ρc w ho hst
   obtain ⟨hu,hsz⟩:=R11 (w:=w) ht
   split at h
   ·rename_i hl
    subst hl
    obtain ⟨hp,hk⟩:=h
    have hp':(parts.map fun (i,x)=>(i,ρc x)).toList=[]:=by simp[hp]
    simp only[execOp,hop,Instr.buildSlice,Sem.run_bind,run_underlying hu,Result.andThen,hsz,Nat.zero_mul,Sem.run_ite,if_true,Sem.run_pure,hp',Instr.fill,newRow,run_newObj]
    rw[if_neg (by omega)]
    simp only[NUpon]
    exact ⟨_,_,hk,.nil0 _,hst.push _,evo_push _ _ _⟩
   ·rename_i hl
    obtain ⟨h1,h2,h3,h4,h5,hk⟩:=h
    have hlen:parts.toList.length=len:=by have:=congrArg List.length h1;simpa using this
    have hpos:len*sz≠0:=by simp only[ne_eq,Nat.mul_eq_zero];omega
    have hz:∃ z:Value,(zeroValue e).run P w=.ok z w:=by
     obtain ⟨ei,hei⟩:=Option.isSome_iff_exists.1 h5
     obtain ⟨ii,dd,zz,hii⟩:=P12 hei
     exact ⟨zz,run_zeroValue' hii⟩
    obtain ⟨z,hz⟩:=hz
    have hps:(parts.map fun (i,x)=>(i,ρc x)).toList=parts.toList.map fun (i,x)=>(i,ρc x):=by simp
    have hvals:∀ p∈parts.toList,Rep (Imm H w) w (ρ p.2) (ρc p.2):=fun p hp=>ho p.2 (by
     simp only[hop,Op.operands,List.mem_toArray,List.mem_map];exact ⟨p,hp,rfl⟩)
    have hsize:((Array.range (len*sz)).map (z.cells[· % z.cells.size]!)).size=(0+(parts.toList.map fun (i,x)=>(i,ρc x)).length)*sz:=by
     simp[hlen]
    have hfill:=fill_seq (sz:=sz) (parts.toList.map fun (i,x)=>(i,ρc x)) 0 ((Array.range (len*sz)).map (z.cells[· % z.cells.size]!)) (by
     rw[List.map_map,List.length_map,hlen]
     have:(fun x:Nat×Value=>x.1)∘(fun x:Nat×Operand=>(x.1,ρc x.2))=fun p:Nat×Operand=>p.1:=rfl
     rw[<-List.range_eq_range']
     exact h1) (by
     intro p hp
     obtain ⟨q,hq,rfl⟩:=List.mem_map.1 hp
     have:=(hvals q hq).size
     simp only
     rw[<-this];exact (h2 q hq).1) hsize
    rw[Nat.zero_mul,List.take_zero,List.nil_append] at hfill
    have hrep:RepL (Imm H w) w (flat (parts.toList.map fun p=>ρ p.2)) ((parts.toList.map fun (i,x)=>(i,ρc x)).flatMap (·.2.cells.toList)):=by
     generalize parts.toList=l at hvals
     clear h1 h2 hlen hps hsize hfill
     induction l with
     |nil=>exact .nil
     |cons p l ih=>
      rw[List.map_cons,List.map_cons,flat_cons,List.flatMap_cons]
      exact (hvals p (by simp)).cells.append (ih fun q hq=>hvals q (by simp[hq]))
    have hone:∀ u∈((parts.toList.map fun (i,x)=>(i,ρc x)).flatMap (·.2.cells.toList)),u.oneCell'=true:=by
     intro u hu'
     simp only[List.mem_flatMap,List.mem_map] at hu'
     obtain ⟨p,⟨q,hq,rfl⟩,hu'⟩:=hu'
     exact (hvals q hq).one (h2 q hq).2 u hu'
    have hel:∀ x∈parts.toList.map fun p=>ρ p.2,x.cells.length=sz:=by
     intro x hx
     obtain ⟨p,hp,rfl⟩:=List.mem_map.1 hx
     exact (h2 p hp).1
    obtain ⟨a1,a2,a3⟩:=new_row_imm (e:=e) hrep hone hel (by
     rw[List.length_map,hlen]
     have:len<=len*sz:=Nat.le_mul_of_pos_right _ (by omega)
     unfold lim;omega) hst
    rw[List.length_map,hlen] at a3
    simp only[execOp,hop,Instr.buildSlice,Sem.run_bind,run_underlying hu,Result.andThen,hsz,Sem.run_ite,hpos,if_false,hz,Sem.run_pure,hps,hfill,newRow,run_newObj]
    rw[if_neg (by omega)]
    simp only[NUpon]
    exact ⟨_,_,hk,a3,a1,a2⟩
  ·exact h.elim
 ·-- makeMap
  rename_i t hop
  intro ρc w ho hst
  simp only[execOp,hop,Instr.makeMap,Option.map_none,Sem.run_bind,run_newObj,Result.andThen,Sem.run_pure,NUpon]
  refine ⟨_,_,h _ (hst.fresh (Nat.le_refl _)),.map _,?_,T13 hst⟩
  exact hst.new ⟨#[],0,by simp,.nil,.nil,by simp,by simp⟩
 ·rename_i t m k x hop
  split at h
  ·rename_i kt et b key h1 h2 h3
   split at h
   ·rename_i kd es h4 hb
    intro ρc w ho hst
    have hm:=ho m (by simp[hop,Op.operands])
    rw[h2] at hm
    generalize hp:ρc m=p at hm
    cases hm
    obtain ⟨w',e1,e2,e3⟩:=map_set h1 h4 hb h3 h.1 h.2.1 (ho k (by simp[hop,Op.operands])) (ho x (by simp[hop,Op.operands])) hst
    simp only[execOp,hop,hp,Sem.run_bind,e1,Result.andThen,Sem.run_pure,NUpon]
    exact ⟨_,_,h.2.2,Y12 _ _,e2,e3⟩
   ·exact h.elim
  ·exact h.elim
 ·rename_i t m k x hop
  split at h
  ·rename_i kt et b key h1 h2 h3
   split at h
   ·rename_i kd es h4 hb
    intro ρc w ho hst
    have hm:=ho m (by simp[hop,Op.operands])
    rw[h2] at hm
    generalize hp:ρc m=p at hm
    cases hm
    obtain ⟨w',e1,e2,e3⟩:=map_set h1 h4 hb h3 h.1 h.2.1 (ho k (by simp[hop,Op.operands])) (ho x (by simp[hop,Op.operands])) hst
    simp only[execOp,hop,hp,Sem.run_bind,e1,Result.andThen,Sem.run_pure,NUpon]
    exact ⟨_,_,h.2.2,Y12 _ _,e2,e3⟩
   ·exact h.elim
  ·exact h.elim
 ·-- call
  rename_i c hop
  split at h
  ·rename_i f hf
   intro ρc w ho hst
   have mem:∀ x∈c.args.toList,Rep (Imm H w) w (ρ x) (ρc x):=fun x hx=>ho x (by simp[hop,Op.operands,Call.operands];exact .inr (by simpa using hx))
   have hfr:=ho f (by simp[hop,Op.operands,Call.operands,hf])
   have:=h w (ρc f) (c.args.toList.map ρc) hfr (RepL.map_ ρ ρc _ mem) hst
   have e:(c.args.toList.map ρc).toArray=c.args.map ρc:=by rw[<-Array.toList_map,Array.toArray_toList]
   rw[e] at this
   simpa only[execOp,hop,resolve,hf] using this
  ·rename_i hf
   split at h
   ·rename_i s x ts tx hargs hts
    intro ρc w ho hst
    have mem:∀ x∈c.args.toList,Rep (Imm H w) w (ρ x) (ρc x):=fun x hx=>ho x (by simp[hop,Op.operands,Call.operands];exact .inr (by simpa using hx))
    have hs:=mem s (by rw[hargs];simp)
    have hx:=mem x (by rw[hargs];simp)
    have ha:c.args.map ρc = #[ρc s,ρc x]:=by rw[<-@Array.toArray_toList _ (c.args.map ρc),Array.toList_map,hargs];rfl
    have hta:c.argTypes = #[ts,tx]:=by rw[<-@Array.toArray_toList _ c.argTypes,hts]
    have fin:∀ u w',(Builtin.append_ #[ts,tx] o.type #[ρc s,ρc x]).run P w=.ok u w'->(execOp ρc o).run P w=.ok (.value u) w':=by
     intro u w' hu
     simp only[execOp,hop,resolve,hf,Sem.run_bind,Sem.run_pure,Result.andThen,invoke,builtin,ha,hta,hu]
    split at h
    ·unfold vappendI at h
     split at h
     ·rename_i e sz hd
      obtain ⟨hxt,h⟩:=h
      obtain ⟨xd,hxd,hxn⟩:∃ xd,P.underlying tx=some xd/\∀ k,xd≠.int k:=by
       split at hxt
       ·exact hxt.elim
       ·exact hxt.elim
       ·rename_i td n1 n2 htd
        obtain ⟨ti,i,dd,z,hi,hdd⟩:=D12 htd
        refine ⟨dd,hi.und,fun k e=>?_⟩
        subst e
        simp only[tdOf] at hdd
        exact n1 k hdd.symm
       ·exact hxt.elim
      split at h
      ·rename_i ei ys hei hys
       obtain ⟨hby,hyz,hsn,hl,hK⟩:=h
       rw[hsn] at hs
       obtain ⟨u,w',e1,hc⟩:=append_own (ty:=o.type) (xs:=[]) hd hxd hxn hei hby hys hyz (.inl ⟨rfl,rfl⟩) (by simpa using hl) hs hx hst
       rw[fin _ _ e1]
       rcases hc with ⟨c1,c2,c3,c4,c5⟩|⟨b,cap,c1,c2,c3,c4,c5⟩
       ·refine ⟨_,_,hK,?_,c4,c5⟩
        rw[c1]
        cases c3
        exact .nil _ _
       ·have hbn:H b=none:=c2.resolve_right (by simp)
        have hd0:∀ k,H k=none\/H k=(H.upd b (.row e sz cap ([]++ys))) k:=fun k=>by
         by_cases hk:k=b
         ·subst hk;exact .inl hbn
         ·exact .inr (HM.upd_ne _ _ hk).symm
        have hI:∀ k,Imm (H.upd b (.row e sz cap ([]++ys))) w' k->Imm H w' k:=fun k hk=>⟨hk.1,(hd0 k).elim id fun q=>q.trans hk.2⟩
        refine ⟨_,_,hK,?_,c4.drop hd0,c5.drop hd0⟩
        cases c3
        obtain ⟨vs,rest,q1,q2,q3,q4,q5,q6⟩:=c4.obj _ _ (HM.upd_same _ _ _)
        have hlt:=(Array.getElem?_eq_some_iff.1 q1).1
        simp only[List.nil_append] at q2 q3 q5 q6 ⊢
        refine .list (ad:=⟨b,0,none⟩) (fun _=>⟨hlt,hbn⟩) rfl q3 (fun i v hi=>?_) q4 q6 hl (q2.keep hI fun _ _=>rfl)
        rw[D11,G12 q1]
        have hi':=(List.getElem?_eq_some_iff.1 hi).1
        rw[List.getElem?_toArray,List.getElem?_append_left (by omega)]
        simpa using hi
      ·exact h.elim
     ·exact h.elim
    unfold vappend at h
    split at h
    ·rename_i e sz hd
     obtain ⟨hxt,h⟩:=h
     obtain ⟨xd,hxd,hxn⟩:∃ xd,P.underlying tx=some xd/\∀ k,xd≠.int k:=by
      split at hxt
      ·exact hxt.elim
      ·exact hxt.elim
      ·rename_i td n1 n2 htd
       obtain ⟨ti,i,dd,z,hi,hdd⟩:=D12 htd
       refine ⟨dd,hi.und,fun k e=>?_⟩
       subst e
       simp only[tdOf] at hdd
       exact n1 k hdd.symm
      ·exact hxt.elim
     split at h
     ·rename_i ei ys hei hys
      obtain ⟨hby,hyz,h⟩:=h
      split at h
      ·rename_i hsn
       rw[hsn] at hs
       obtain ⟨hl,h1,h2⟩:=h
       obtain ⟨u,w',e1,hc⟩:=append_own (ty:=o.type) (xs:=[]) hd hxd hxn hei hby hys hyz (.inl ⟨rfl,rfl⟩) (by simpa using hl) hs hx hst
       rw[fin _ _ e1]
       rcases hc with ⟨c1,c2,c3,c4,c5⟩|⟨b,cap,c1,c2,c3,c4,c5⟩
       ·exact ⟨_,_,h1 c1,c3,c4,c5⟩
       ·refine ⟨_,_,h2 b cap (c2.resolve_right (by simp)) (by simpa using c1),?_,?_,?_⟩
        ·simpa using c3
        ·simpa using c4
        ·simpa using c5
      ·rename_i b n cap hsn
       split at h
       ·rename_i e' sz' cap0 xs hb
        obtain ⟨rfl,rfl,rfl,rfl,hne,hl,h2⟩:=h
        rw[hsn] at hs hne
        obtain ⟨u,w',e1,hc⟩:=append_own (ty:=o.type) (xs:=xs) hd hxd hxn hei hby hys hyz (.inr ⟨b,cap,rfl,hb,hne⟩) hl hs hx hst
        rw[fin _ _ e1]
        rcases hc with ⟨c1,c2,c3,c4,c5⟩|⟨b',cap',c1,c2,c3,c4,c5⟩
        ·cases c2
        ·refine ⟨_,_,h2 b' cap' (c2.imp id fun q=>?_) c1,c3,c4,c5⟩
         injection q with q1 q2 q3
         exact ⟨q1.symm,q3.symm⟩
       ·exact h.elim
      ·exact h.elim
     ·exact h.elim
    ·exact h.elim
   ·exact h.elim
  ·rename_i hcal
   split at h
   ·rename_i d x td tx hargs htys
    obtain ⟨cal,cargs,ctys⟩:=c
    simp only at hcal hargs htys
    have hargs':cargs = #[d,x]:=by apply Array.ext';simpa using hargs
    have htys':ctys = #[td,tx]:=by apply Array.ext';simpa using htys
    subst hcal hargs' htys'
    intro ρc w ho hst
    have hd:=ho d (by simp[hop,Op.operands,Call.operands])
    have hx:=ho x (by simp[hop,Op.operands,Call.operands])
    have fin:∀ u w',(Builtin.copy_ #[td,tx] o.type #[ρc d,ρc x]).run P w=.ok u w'->(execOp ρc o).run P w=.ok (.value u) w':=by
     intro u w' e
     simp only[execOp,hop,resolve,Sem.run_bind,Sem.run_pure,Result.andThen,invoke,builtin]
     have e2:Array.map ρc #[d,x] = #[ρc d,ρc x]:=by simp
     rw[e2,e]
    unfold vcopy at h
    split at h
    ·rename_i e sz htd
     obtain ⟨hu,hsz⟩:=R11 htd (w:=w)
     generalize hdv:ρc d=dv at hd fin
     generalize hxv:ρc x=xv at hx fin
     split at h
     ·rename_i ys hdd hxx
      rw[hdd] at hd
      cases hd with
      |nil0 a=>
       rw[hxx] at hx
       have hlo:∃ m,Builtin.lenOf xv=pure m/\∃ q c,xv=.slice q m c:=by
        cases hx with
        |nil a' cap=>exact ⟨0,rfl,_,_,rfl⟩
        |list=>exact ⟨_,rfl,_,_,rfl⟩
       obtain ⟨m,hlo,q,cp,rfl⟩:=hlo
       have hfc:(Builtin.firstCells sz 0 (.slice q m cp)).run P w=.ok #[] w:=by
        cases q with
        |none=>rfl
        |some a=>simpa[Builtin.firstCells] using run_loadCells_list (P:=P) (w:=w) a [] (by simp)
       have e1:(Builtin.copy_ #[td,tx] o.type #[.slice a 0 0,.slice q m cp]).run P w=.ok (goInt 0) w:=by
        cases a with
        |none=>simp[Builtin.copy_,Sem.run_bind,run_underlying hu,Result.andThen,hlo,hsz,hfc]
        |some a=>simp[Builtin.copy_,Sem.run_bind,run_underlying hu,Result.andThen,hlo,hsz,hfc,storeCells]
       rw[fin _ _ e1]
       exact ⟨_,_,h,.val _ trivial,hst,Evo.refl _ _⟩
     ·rename_i b n cap ys hdd hxx
      split at h
      ·rename_i e' sz' cap' xs hb
       obtain ⟨rfl,rfl,hle,hz,hK⟩:=h
       rw[hdd] at hd
       rw[hxx] at hx
       cases hd
       obtain ⟨vs0,rest,q1,q2,q3,q4,q5,q6⟩:=hst.obj _ _ hb
       have hl0:=q2.length
       rw[F12 q3] at hl0
       have src:∃ vs,Builtin.lenOf xv=pure ys.length/\(Builtin.firstCells sz xs.length xv).run P w=.ok vs.toArray w/\RepL (Imm H w) w (flat (ys.take xs.length)) vs/\(∀ u∈vs,u.oneCell'=true)/\vs.length=xs.length*sz:=by
        cases hx with
        |nil a cap=>
         have:xs=[]:=by simpa using hle
         subst this
         refine ⟨[],rfl,?_,.nil,by simp,by simp⟩
         cases a with
         |none=>rfl
         |some a=>simpa[Builtin.firstCells] using run_loadCells_list (P:=P) (w:=w) a [] (by simp)
        |list h1 h2 h3 h4 h5 h6 h7 h8=>
         rename_i vs ad cap sz'
         have hl:=h8.length
         rw[F12 hz] at hl
         have hmul:xs.length*sz<=ys.length*sz:=Nat.mul_le_mul_right _ hle
         have htl:(vs.take (xs.length*sz)).length=xs.length*sz:=by rw[List.length_take];omega
         refine ⟨vs.take (xs.length*sz),rfl,?_,?_,fun u hu=>h5 u (List.mem_of_mem_take hu),htl⟩
         ·have:=run_loadCells_list (P:=P) (w:=w) ad (vs.take (xs.length*sz)) (h4.take _)
          rw[htl] at this
          simpa[Builtin.firstCells] using this
         ·have e:flat (ys.take xs.length)=(flat ys).take (xs.length*sz):=by
           conv=>rhs;rw[<-List.take_append_drop xs.length ys,flat_append]
           rw[List.take_left' (by rw[F12 (fun y hy=>hz y (List.mem_of_mem_take hy)),List.length_take];congr 1;omega)]
          rw[e];exact h8.take _
       obtain ⟨vs,s1,s2,s3,s4,s5⟩:=src
       have hoff:0+vs.length<=(vs0++rest).toArray.size:=by simp;omega
       have hrun:=T12 (P:=P) vs 0 0 (vs0++rest).toArray w q1 (by simpa using hoff) s4
       rw[set_range hoff] at hrun
       have hmin:Nat.min ys.length xs.length=xs.length:=Nat.min_eq_right hle
       have e1:(Builtin.copy_ #[td,tx] o.type #[.slice (some ⟨b,0,none⟩) xs.length cap,xv]).run P w=.ok (goInt xs.length) (w.putObj b (.cells ((vs0++rest).toArray.toList.take 0++vs++(vs0++rest).toArray.toList.drop (0+vs.length)).toArray e' (0,0))):=by
        simp only[List.take_zero,List.nil_append,Nat.zero_add] at hrun
        simp[Builtin.copy_,Sem.run_bind,run_underlying hu,Result.andThen,s1,hsz,hmin,s2,hrun]
       rw[fin _ _ e1]
       have hlt:=(Array.getElem?_eq_some_iff.1 q1).1
       have hdrop:(vs0++rest).toArray.toList.drop (0+vs.length)=rest:=by
        simp only[Nat.zero_add]
        rw[List.drop_left' (by omega)]
       rw[hdrop]
       have he:Evo H w (H.upd b (.row e' sz cap' (ys.take xs.length))) (w.putObj b (.cells ((vs0++rest).toArray.toList.take 0++vs++rest).toArray e' (0,0))):=evo_set rfl rfl rfl (by simp) (fun k hk=>World.putObj_heap_other hk) (by simp[hb])
       have htk:(ys.take xs.length).length=xs.length:=by rw[List.length_take];omega
       refine ⟨_,_,hK,.val _ trivial,(St.put_cells hst (by simp[hb]) (show RepO _ _ _ (.row e' sz cap' (ys.take xs.length)) from ⟨vs,rest,?_,he.repL s3,fun y hy=>hz y (List.mem_of_mem_take hy),s4,by rw[htk];exact q5,by rw[htk];exact q6⟩)).1,he⟩
       simpa using World.putObj_heap_same (w:=w) hlt
      ·exact h.elim
     ·exact h.elim
    ·exact h.elim
   ·exact h.elim
  ·split at h
   ·exact vx_val ‹_› h
   ·exact h.elim
 ·-- panic
  rename_i x hop
  split at h
  ·rename_i t v hx
   intro ρc w ho hst
   have hr:=ho x (by simp[hop,Op.operands])
   rw[hx] at hr
   generalize hp:ρc x=p at hr
   cases hr with
   |iface hv=>
    simp only[execOp,hop,hp,Instr.panic,Sem.run_bind,run_goPanic,Result.andThen,NUpon]
    exact ⟨_,_,h,.iface hv,hst,Evo.refl _ _⟩
  ·exact h.elim
 ·-- range
  rename_i t x hop
  split at h
  ·rename_i s ht hx
   intro ρc w ho hst
   have hr:=ho x (by simp[hop,Op.operands])
   rw[hx] at hr
   simp only[execOp,hop,hr.val_eq,Instr.range,Sem.run_bind,run_underlying' (td_str ht),Result.andThen,Sem.run_pure,run_newObj,NUpon]
   exact ⟨_,_,h _ (hst.fresh (Nat.le_refl _)),.addr _ _,hst.new (show RepO _ _ _ (.siter s 0) from by simp[RepO]),T13 hst⟩
  ·rename_i k e es ht hx
   intro ρc w ho hst
   have hr:=ho x (by simp[hop,Op.operands])
   rw[hx] at hr
   generalize hp:ρc x=p at hr
   cases hr with
   |imap h1 h2 h0 h3 h4=>
    simp only[execOp,hop,hp,Instr.range,Sem.run_bind,run_underlying' (td_map ht),Result.andThen,Sem.run_pure,run_getMap h2,run_newObj,NUpon]
    refine ⟨_,_,h _ (hst.fresh (Nat.le_refl _)),.addr _ _,hst.new ?_,T13 hst⟩
    rename_i r ents clock
    have he:=T13 (o:=.mapIter (some r) clock #[] clock) (ao:=.miter es []) hst
    exact ⟨some r,clock,#[],clock,by simp,.inr ⟨r,ents,rfl,he.imm _ h1,(he.same _ h1).trans h2,rfl,h0,he.repL h3,he.repL h4,by simp,by simp⟩⟩
  ·exact h.elim
 ·-- next
  rename_i x isS hop
  split at h
  ·rename_i b hx
   split at h
   ·rename_i s pos hb
    intro ρc w ho hst
    have hr:=ho x (by simp[hop,Op.operands])
    rw[hx] at hr
    generalize hp:ρc x=p at hr
    cases hr
    have hw:w.heap[b]?=some (.stringIter s pos):=hst.obj _ _ hb
    have hg:(getObj b).run P w=.ok (.stringIter s pos) w:=by simp[getObj,Sem.run,hw]
    have hlt:=(Array.getElem?_eq_some_iff.1 hw).1
    by_cases hpos:pos<s.size
    ·have hset:∀ o,(setObj b o).run P w=.ok () (w.putObj b o):=by
      intro o;simp[setObj,Sem.run,hw,World.putObj]
     simp only[execOp,hop,hp,Instr.next,Sem.run_bind,hg,Result.andThen,Sem.run_pure,hpos,if_true,hset,NUpon]
     have he:Evo H w (H.upd b (.siter s (pos+(Utf8.decode s pos).2))) (w.putObj b (.stringIter s (pos+(Utf8.decode s pos).2))):=evo_set rfl rfl rfl (by simp) (fun k hk=>World.putObj_heap_other hk) (by simp[hb])
     exact ⟨_,_,h.1 hpos,.tup (.cons (.val _ trivial) (.cons (.val _ trivial) (.cons (.val _ trivial) .nil))),(St.put_cells hst (by simp[hb]) (show RepO _ _ _ (.siter s _) from World.putObj_heap_same hlt)).1,he⟩
    ·simp only[execOp,hop,hp,Instr.next,Sem.run_bind,hg,Result.andThen,Sem.run_pure,hpos,if_false,NUpon]
     exact ⟨_,_,h.2 hpos,.tup (.cons (.val _ trivial) .nil),hst,Evo.refl _ _⟩
   ·rename_i es seen hb
    intro ρc w ho hst
    have hr:=ho x (by simp[hop,Op.operands])
    rw[hx] at hr
    generalize hp:ρc x=p at hr
    cases hr
    obtain ⟨m,si,sb,la,hw,hm⟩:=hst.obj _ _ hb
    have hlt:=(Array.getElem?_eq_some_iff.1 hw).1
    rcases hm with ⟨rfl,rfl⟩|⟨r,ents,rfl,hI,hr,rfl,hS,hk,hv,hsb,hin⟩
    ·have hg:(getObj b).run P w=.ok (.mapIter none si sb la) w:=by simp[getObj,Sem.run,hw]
     simp only[execOp,hop,hp,Instr.next,Sem.run_bind,hg,Result.andThen,Sem.run_pure,NUpon]
     exact ⟨_,_,h.1 (by simp),.tup (.cons (.val _ trivial) .nil),hst,Evo.refl _ _⟩
    ·rcases run_next_at (P:=P) w o.type b r la la sb ents la hw hr hS.1 (Nat.le_refl _) with ⟨hz,e1⟩|⟨e,hem,w1,hw1,e1⟩
     ·have hall:∀ j,j<es.length->j∈seen:=by
       intro j hj
       have hl:=hk.length
       simp only[List.length_map,Array.length_toList] at hl
       have hj':j<ents.size:=by omega
       have hc:ents[j].born∈sb.toList:=by
        have hnl:ents[j]∉(leftOf ents sb).toList:=by
         intro hmm
         have:0<(leftOf ents sb).toList.length:=List.length_pos_of_mem hmm
         simp at this;omega
        simp only[leftOf,Array.toList_filter,List.mem_filter,Array.mem_toList_iff,Array.getElem_mem,true_and,Bool.not_eq_true',Bool.not_eq_false] at hnl
        simpa using hnl
       rw[hsb,List.mem_filterMap] at hc
       obtain ⟨i,hi,hq⟩:=hc
       have hi':=hin i hi
       rw[Array.getElem?_eq_getElem hi'] at hq
       simp only[Option.map_some,Option.some.injEq] at hq
       have:i=j:=by
        have hnd:=hS.2
        have q1:(ents.toList.map (·.born))[i]'(by simpa using hi')=(ents.toList.map (·.born))[j]'(by simpa using hj'):=by simpa using hq
        exact (List.getElem_inj hnd).1 q1
       exact this▸hi
      simp only[execOp,hop,hp,Sem.run_bind,e1,Result.andThen,Sem.run_pure,NUpon]
      exact ⟨_,_,h.1 hall,.tup (.cons (.val _ trivial) .nil),hst,Evo.refl _ _⟩
     ·simp only[leftOf,Array.toList_filter,List.mem_filter,Array.mem_toList_iff] at hem
      obtain ⟨hem1,hem2⟩:=hem
      obtain ⟨j,hj,rfl⟩:=Array.mem_iff_getElem.1 hem1
      have hns:j∉seen:=by
       intro hmm
       have:ents[j].born∈sb.toList:=by
        rw[hsb,List.mem_filterMap]
        exact ⟨j,hmm,by rw[Array.getElem?_eq_getElem hj];rfl⟩
       simp only[Bool.not_eq_true',Array.contains_eq_mem,decide_eq_false_iff_not] at hem2
       exact hem2 (by simpa using this)
      have hl:=hk.length
      simp only[List.length_map,Array.length_toList] at hl
      obtain ⟨e0,he0⟩:∃ e0,es[j]?=some e0:=⟨_,List.getElem?_eq_getElem (by omega)⟩
      obtain ⟨v1,g1,r1⟩:=hk.get j e0.1 (by simp[he0])
      obtain ⟨v2,g2,r2⟩:=hv.get j e0.2 (by simp[he0])
      have g1':v1=ents[j].key:=by simpa[hj] using g1.symm
      have g2':v2=ents[j].val:=by simpa[hj] using g2.symm
      subst g1' g2'
      have hset:∀ (w1:World) (o:Obj),ChangeMaps.setBlock w1 b o=w1.putObj b o:=fun _ _=>rfl
      rw[hset] at e1
      simp only[execOp,hop,hp,Sem.run_bind,e1,Result.andThen,Sem.run_pure,NUpon]
      have hh:w1.heap=w.heap:=by rcases hw1 with rfl|rfl<;>rfl
      have hev:Evo H w (H.upd b (.miter es (seen++[j]))) (w1.putObj b (.mapIter (some r) la (sb.push ents[j].born) la)):=
       evo_set (by rcases hw1 with rfl|rfl<;>rfl) (by rcases hw1 with rfl|rfl<;>rfl) (by rcases hw1 with rfl|rfl<;>rfl) (by simp[hh]) (fun k hk=>by rw[World.putObj_heap_other hk,hh]) (by simp[hb])
      refine ⟨_,_,h.2 j e0 he0 hns,.tup (.cons (.val _ trivial) (.cons (hev.rep r1) (.cons (hev.rep r2) .nil))),hst.set hev (fun k hk=>by rw[World.putObj_heap_other hk,hh]) ?_,hev⟩
      refine ⟨some r,la,sb.push ents[j].born,la,World.putObj_heap_same (by rw[hh];exact hlt),.inr ⟨r,ents,rfl,hev.imm _ hI,(hev.same _ hI).trans hr,rfl,hS,hev.repL hk,hev.repL hv,?_,?_⟩⟩
      ·simp[hsb,hj]
      ·intro i hi
       rcases List.mem_append.1 hi with hi|hi
       ·exact hin i hi
       ·simp only[List.mem_singleton] at hi;subst hi;exact hj
   ·exact h.elim
  ·exact h.elim
 ·-- entry
  rename_i x hop
  split at h
  ·rename_i b hx
   split at h
   ·rename_i es seen hb
    obtain ⟨j,e0,hl0,he0,hK⟩:=h
    intro ρc w ho hst
    have hr:=ho x (by simp[hop,Op.operands])
    rw[hx] at hr
    generalize hp:ρc x=p at hr
    cases hr
    obtain ⟨m,si,sb,la,hw,hm⟩:=hst.obj _ _ hb
    rcases hm with ⟨rfl,rfl⟩|⟨r,ents,rfl,hI,hr,rfl,hS,hk,hv,hsb,hin⟩
    ·simp at he0
    ·have hjs:j∈seen:=List.mem_of_getLast? hl0
     have hj:=hin j hjs
     obtain ⟨s0,hs0⟩:∃ s0,seen=s0++[j]:=by
      obtain ⟨s0,rfl⟩:=List.getLast?_eq_some_iff.1 hl0
      exact ⟨s0,rfl⟩
     obtain ⟨sb0,hsb0⟩:∃ sb0:Array Nat,sb=sb0.push ents[j].born:=by
      rw[hs0,List.filterMap_append] at hsb
      simp only[List.filterMap_cons,List.filterMap_nil,Array.getElem?_eq_getElem hj,Option.map_some] at hsb
      exact ⟨(s0.filterMap fun i=>(ents[i]?).map (·.born)).toArray,by apply Array.ext';rw[hsb];simp⟩
     rw[hsb0] at hw
     have e1:=run_entry_at (P:=P) w b r la sb0 ents la ents[j] hw hr (by simp) hS.2
     obtain ⟨v1,g1,r1⟩:=hk.get j e0.1 (by simp[he0])
     obtain ⟨v2,g2,r2⟩:=hv.get j e0.2 (by simp[he0])
     have g1':v1=ents[j].key:=by simpa[hj] using g1.symm
     have g2':v2=ents[j].val:=by simpa[hj] using g2.symm
     subst g1' g2'
     simp only[execOp,hop,hp,Sem.run_bind,e1,Result.andThen,Sem.run_pure,NUpon]
     exact ⟨_,_,hK,rep_tup2 r1 r2,hst,Evo.refl _ _⟩
   ·exact h.elim
  ·exact h.elim
 ·split at h
  ·exact vx_val ‹_› h
  ·exact h.elim
variable {n:Nat} {r:Option Nat} {Q Q':AX->AS->Prop} {s:AS}
def vop (P:Program) (G:GT) (M:List Nat) (ops:Array Oper) (Q:AX->AS->Prop) (o:Oper) (K:AS->Prop) (s:AS):Prop:=
 if wantA ops o s.tmps then vx P G M (s.eval G) s.H o (fun
  |.ret v,H'=>K (s.put o.dst v H')
  |.pan v,H'=>Q (.pan v) { s with H:=H' })
 else K (s.put o.dst .unit s.H)
def vops (P:Program) (G:GT) (M:List Nat) (ops:Array Oper) (Q:AX->AS->Prop):List Oper->AS->Prop
 |[],s=>Q .normal s
 |o::rest,s=>vop P G M ops Q o (vops P G M ops Q rest) s
theorem vop_sound {ops:Array Oper} {K:AS->Prop} (h:vop P G M ops Q o K s):VOp P G ops Q o K s:=by
 unfold vop at h
 unfold VOp
 split
 ·rw[if_pos ‹_›] at h;exact I11 h
 ·rw[if_neg ‹_›] at h;exact h
theorem vops_sound {ops:Array Oper}:∀ (l:List Oper) (s:AS),vops P G M ops Q l s->VOps P G ops Q l s
 |[],_,h=>h
 |o::rest,s,h=>(vop_sound h).mono fun s' h'=>vops_sound rest s' h'
theorem VW_ops (M:List Nat) {id:Nat} {ops:Array Oper} (h:vops P G M ops Q ops.toList s):VW P G n r (.region id ops false) Q s:=VW_region (vops_sound _ _ h)
def PureV (P:Program) (G:GT) (f:AV) (args:List AV) (H:HM) (v:AV):Prop:=∀ K:ARes->HM->Prop,K (.ret v) H->CallV P G f args H K
def vqx (P:Program) (G:GT) (ρ:Operand->AV) (H:HM) (o:Oper) (K:AV->Prop):Prop:=
 match o.op with
 |.call c=>match c.callee with
  |.value f=>∃ v,PureV P G (ρ f) (c.args.toList.map ρ) H v/\K v
  |_=>match vval P ρ H o with
   |some v=>K v
   |none=>False
 |.box t x=>(ρ x).one=true/\K (.ref (ρ x).cells)
 |.buildSlice t len parts=>match tdAt P t with
  |some (.slice e sz)=>if len=0 then parts.toList=[]/\K .nil0 else
    parts.toList.map (·.1)=List.range len/\(∀ p∈parts.toList,(ρ p.2).cells.length=sz/\(ρ p.2).one=true)/\sz≠0/\len*sz<=16777216/\(tiOf P e).isSome=true/\K (.list (parts.toList.map fun p=>ρ p.2))
  |_=>False
 |_=>match vval P ρ H o with
  |some v=>K v
  |none=>False
theorem vqx_sound {K:AV->Prop} (h:vqx P G ρ H o K):∃ v,VQuiet P G ρ H o v/\K v:=by
 unfold vqx at h
 split at h
 ·rename_i c hop
  split at h
  ·rename_i f hf
   obtain ⟨v,h1,h2⟩:=h
   refine ⟨v,fun K' hk=>I11 (M:=[]) ?_,h2⟩
   unfold vx
   simp only[hop,hf]
   exact h1 K' hk
  ·split at h
   ·exact ⟨_,vval_quiet ‹_›,h⟩
   ·exact h.elim
 ·rename_i t x hop
  refine ⟨_,fun K' hk=>I11 (M:=[]) ?_,h.2⟩
  unfold vx
  simp only[hop]
  refine ⟨h.1,?_⟩
  have:isMut [] o.dst=false:=by unfold isMut;split<;>simp
  rw[this];exact hk
 ·rename_i t len parts hop
  split at h
  ·rename_i e sz ht
   split at h
   ·rename_i hl
    refine ⟨_,fun K' hk=>I11 (M:=[]) ?_,h.2⟩
    unfold vx
    simp only[hop,ht,hl,if_true]
    exact ⟨h.1,hk⟩
   ·rename_i hl
    obtain ⟨h1,h2,h3,h4,h5,h6⟩:=h
    refine ⟨_,fun K' hk=>I11 (M:=[]) ?_,h6⟩
    unfold vx
    simp only[hop,ht,hl,if_false]
    exact ⟨h1,h2,h3,h4,h5,hk⟩
  ·exact h.elim
 ·split at h
  ·exact ⟨_,vval_quiet ‹_›,h⟩
  ·exact h.elim
def vqs (P:Program) (G:GT) (ops:Array Oper):List Oper->AS->(AS->Prop)->Prop
 |[],s,K=>K s
 |o::rest,s,K=>if wantA ops o s.tmps then vqx P G (s.eval G) s.H o (fun v=>vqs P G ops rest (s.put o.dst v s.H) K) else vqs P G ops rest (s.put o.dst .unit s.H) K
theorem vqs_sound {ops:Array Oper} {K:AS->Prop}:∀ (l:List Oper) (s:AS),vqs P G ops l s K->VQ P G ops l s K
 |[],_,h=>h
 |o::rest,s,h=>by
  unfold vqs at h
  unfold VQ
  split
  ·rw[if_pos ‹_›] at h
   obtain ⟨v,h1,h2⟩:=vqx_sound h
   exact ⟨v,h1,vqs_sound rest _ h2⟩
  ·rw[if_neg ‹_›] at h;exact vqs_sound rest _ h
theorem vqs_mono {ops:Array Oper} {K K':AS->Prop} (hk:∀ s,K s->K' s):∀ (l:List Oper) (s:AS),VQ P G ops l s K->VQ P G ops l s K'
 |[],_,h=>hk _ h
 |o::rest,s,h=>by
  unfold VQ at *
  split
  ·rw[if_pos ‹_›] at h;obtain ⟨v,h1,h2⟩:=h;exact ⟨v,h1,vqs_mono hk rest _ h2⟩
  ·rw[if_neg ‹_›] at h;exact vqs_mono hk rest _ h
theorem VW_quiet (M:List Nat) {id:Nat} {ops:Array Oper} (k:Nat) (hm:P.follows .mixedOrders=true) (hk:headOk ops k=true) (ht:tailOk ops k=true)
  (h:vqs P G ops (ops.toList.take k) s (fun s1=>vops P G M ops Q (ops.toList.drop k) s1)):VW P G n r (.region id ops true) Q s:=
 VW_draw k hm hk ht (vqs_mono (fun s' h'=>vops_sound _ _ h') _ _ (vqs_sound _ _ h))
end
end Go.V
