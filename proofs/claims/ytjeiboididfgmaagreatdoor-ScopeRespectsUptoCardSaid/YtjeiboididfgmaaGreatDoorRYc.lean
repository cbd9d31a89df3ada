/- An evaluator for closed runs: its text. No condition. -/
import Derived.Test.YtjeiboididfgmaaGreatDoorRYmx
set_option linter.unusedVariables false
set_option linter.unusedSimpArgs false
namespace Go.V
open Go
structure HS where
 h:Hp
 n:Nat
 m:Nat
 lv:Nat
 ro:Nat
 rm:Nat
structure XS where
 tr:Tr
 hs:HS
inductive XT where
 |normal
 |exit (i:Nat)
 |goto (l:Nat)
 |ret
inductive XTask where
 |code (m:Nat) (rd:Bool) (c:Code) (s:XS)
 |call (fv:AV) (args:List AV) (hs:HS)
inductive TOut where
 |code (x:XT) (s:XS)
 |call (v:AV) (hs:HS)
structure Cfg where
 P:Program
 G:GT
 hook:Nat->Option (List AV->Option AV)
 keep:AV->Oper->Bool
 dq:Nat->Bool
 clone:Nat->Option (Nat×Nat)
def HS.push (hs:HS) (o:EObj):HS:={ hs with h:=(hs.n,o)::hs.h,n:=hs.n+1 }
def HS.put (hs:HS) (k:Nat) (o:EObj):HS:={ hs with h:=hset hs.h k o }
def HS.room (hs:HS):Bool:=Nat.blt hs.n hs.m
def HS.may (hs:HS) (k:Nat):Bool:=Nat.ble hs.ro k&&Nat.blt k hs.rm
mutual
def gnd:AV->Bool
 |.val _=>true
 |.nil0=>true
 |.agg cs=>gndL cs
 |.tup cs=>gndL cs
 |.list cs=>gndL cs
 |.ref cs=>gndL cs
 |.imap es=>gndP es
 |.func (.func _) fs cs=>gndL fs&&gndL cs
 |.iface _ a=>gnd a
 |_=>false
def gndL:List AV->Bool
 |[]=>true
 |a::xs=>gnd a&&gndL xs
def gndP:List (AV×AV)->Bool
 |[]=>true
 |(a,b)::es=>gnd a&&gnd b&&gndP es
end
def mapO {α β:Type} (f:α->Option β):List α->Option (List β)
 |[]=>some []
 |a::xs=>match f a with
  |some b=>match mapO f xs with
   |some bs=>some (b::bs)
   |none=>none
  |none=>none
def rsv (h:Hp) (n0 m:Nat):Nat->AV->Option AV
 |0,_=>none
 |f+1,a=>match a with
  |.val v=>some (.val v)
  |.nil0=>some .nil0
  |.agg cs=>(mapO (rsv h n0 m f) cs).map .agg
  |.tup cs=>(mapO (rsv h n0 m f) cs).map .tup
  |.list cs=>(mapO (rsv h n0 m f) cs).map .list
  |.ref cs=>(mapO (rsv h n0 m f) cs).map .ref
  |.iface t a=>(rsv h n0 m f a).map (.iface t)
  |.func (.func i) fs cs=>match mapO (rsv h n0 m f) fs,mapO (rsv h n0 m f) cs with
   |some fs',some cs'=>some (.func (.func i) fs' cs')
   |_,_=>none
  |.imap es=>if gndP es then some (.imap es) else none
  |.mlist k l _=>match hm h k with
   |some (.row _ _ g xs)=>if n0<=g/\g<m/\l=xs.length/\xs.length<=lim then (mapO (rsv h n0 m f) xs).map .list else none
   |_=>none
  |.addr k off=>if n0<=k/\k<m then match hm h k with
    |some (.cells _ cs)=>(mapO (rsv h n0 m f) (cs.drop off)).map .ref
    |_=>none
   else none
  |.map k=>if n0<=k/\k<m then match hm h k with
    |some (.map es)=>if gndP es then some (.imap es) else none
    |_=>none
   else none
  |_=>none
def hold (n0 m:Nat):Hp->Hp
 |[]=>[]
 |(k,o)::h=>if n0<=k/\k<m then hold n0 m h else (k,o)::hold n0 m h
def hasYield:List AV->Bool
 |[]=>false
 |.func (.yield _) _ _::_=>true
 |_::l=>hasYield l
def settleR (kept:Bool) (hs:HS) (v:AV) (hs':HS):AV×HS:=if kept then (v,hs') else match rsv hs'.h hs.n hs.m 64 v with
 |some g=>(g,{ hs' with h:=hold hs.n hs.m hs'.h })
 |none=>(v,hs')
def notAt (k:Nat):AV->Bool
 |.mlist k' _ _=>!Nat.beq k' k
 |_=>true
def txOk:Option TD->Bool
 |some (.int _)|some .other|none=>false
 |_=>true
def xapp (P:Program) (ts tx:Nat) (s x:AV) (hs:HS):Option (AV×HS):=
 match tdAt P ts with
 |some (.slice e sz)=>if txOk (tdAt P tx) then match tiOf P e,srcOf (hm hs.h) x with
  |some ei,some ys=>if ei.bytes<=1024/\∀ y∈ys,y.cells.length=sz then match s with
   |.nil0=>match ys with
    |[]=>some (.nil0,hs)
    |_=>if ys.length<=lim/\hs.room=true then some (.mlist hs.n ys.length hs.n,hs.push (.ob (.row e sz hs.n ys))) else none
   |.mlist k m _=>match hm hs.h k with
    |some (.row e' sz' g xs)=>if hs.may k=true/\hs.room=true/\e=e'/\sz=sz'/\m=xs.length/\notAt k x=true/\xs.length+ys.length<=lim then
      some (.mlist hs.n (xs++ys).length g,{ hs with h:=(hs.n,.ob (.row e sz g (xs++ys)))::hdel hs.h k,n:=hs.n+1 })
     else none
    |_=>none
   |_=>none
   else none
  |_,_=>none
  else none
 |_=>none
def xcopy (P:Program) (td:Nat) (d x:AV) (hs:HS):Option (AV×HS):=
 match tdAt P td with
 |some (.slice _ sz)=>match d,x with
  |.nil0,x=>match srcOf (hm hs.h) x with
   |some _=>some (.int 0,hs)
   |none=>none
  |.list [],x=>match srcOf (hm hs.h) x with
   |some _=>some (.int 0,hs)
   |none=>none
  |.mlist k m _,.mlist k2 m2 _=>match hm hs.h k,hm hs.h k2 with
   |some (.row e sz' g xs),some (.row _ _ _ ys)=>if hs.may k=true/\k2≠k/\sz=sz'/\m=xs.length/\m2=ys.length/\xs.length<=ys.length/\∀ y∈ys,y.cells.length=sz then
     some (.int m,hs.put k (.ob (.row e sz' g (ys.take m)))) else none
   |_,_=>none
  |.mlist k m _,.list ys=>match hm hs.h k with
   |some (.row e sz' g xs)=>if hs.may k=true/\sz=sz'/\m=xs.length/\xs.length<=ys.length/\∀ y∈ys,y.cells.length=sz then some (.int m,hs.put k (.ob (.row e sz' g (ys.take m)))) else none
   |_=>none
  |_,_=>none
 |_=>none
def nl:AV->AV
 |.nil0=>.list []
 |a=>a
def opnds (o:Op) (ρ:Operand->AV):Operand->AV:=match o with
 |.slice .. => fun y=>nl (ρ y)
 |_=>ρ
def vfast (P:Program) (ρ:Operand->AV) (H:HM) (o:Oper):Option AV:=match o.op with
 |.move x=>some (ρ x)
 |.assign x=>some (ρ x)
 |.pick c a b=>vpick (ρ c) (ρ a) (ρ b)
 |.load t x=>vload (tiOf P t) (cellsAt H (ρ x))
 |.nilCheck x=>vnilc (ρ x)
 |.binOp op t x y _=>vbin P op t (ρ x) (ρ y)
 |.unOp op _ x=>vun op (ρ x)
 |.convert s d x=>vconv (tdAt P s) (tdAt P d) (ρ x)
 |.fieldAddr t x i=>vfad ((tiOf P t).bind (fieldOf · i)) (ρ x)
 |.field t x i=>vfld ((tiOf P t).bind (fieldOf · i)) (ρ x)
 |.indexAddr t x i=>vixa (tdAt P t) (ρ x) (ρ i)
 |.index t x i=>vix (tdAt P t) (ρ x) (ρ i)
 |.lookup t x k ok=>vlook P (tdAt P t) (entriesOf H (ρ x)) (keyOf (ρ k)) ok
 |.extract x i=>vext (ρ x) i
 |.build t parts=>vbld (tiOf P t) (parts.toList.map fun p=>(p.1,ρ p.2))
 |_=>vval P ρ H o
def cut0 (C:Cfg) (ρ:Operand->AV) (hs:HS) (o:Oper):Option (AV×HS):=match o.op with
 |.slice t x none (some hi) (some mx)=>match tdAt C.P t,ρ x,ρ hi,ρ mx with
  |some (.slice _ _),.mlist _ _ _,.val (.int _ 0),.val (.int _ 0)=>some (.nil0,hs)
  |_,_,_,_=>none
 |.slice t x none (some hi) none=>match tdAt C.P t,ρ x,ρ hi with
  |some (.slice _ _),.mlist k m cp,.val (.int _ i)=>match hm hs.h k with
   |some (.row _ _ _ xs)=>if 0<=i/\i<=xs.length then some (.mlist k i.toNat cp,hs) else none
   |_=>none
  |_,_,_=>none
 |.lookup t x k ok=>match ρ x with
  |.map b=>match hget hs.h b with
   |some (.pm es)=>match vval C.P ρ (hm ((b,.ob (.map es))::hs.h)) o with
    |some v=>some (v,hs)
    |none=>none
   |_=>none
  |_=>none
 |.slice t x (some lo) none none=>match tdAt C.P t,ρ x,ρ lo with
  |some (.slice _ _),.mlist _ m _,.val (.int _ i)=>if i=m then some (.list [],hs) else none
  |_,_,_=>none
 |_=>none
def xpure (C:Cfg) (ρ:Operand->AV) (hs:HS) (o:Oper):Option (AV×HS):=
 if fnPlain o.op then match vfast C.P (opnds o.op ρ) (hm hs.h) o with
  |some v=>some (v,hs)
  |none=>cut0 C ρ hs o
 else none
def xslice (P:Program) (ρ:Operand->AV) (t len:Nat) (parts:Array (Nat×Operand)):Option AV:=
 match tdAt P t with
 |some (.slice e sz)=>if len=0 then (match parts.toList with | []=>some .nil0|_=>none) else
   if parts.toList.map (·.1)=List.range len/\(∀ p∈parts.toList,(ρ p.2).cells.length=sz/\(ρ p.2).one=true)/\sz≠0/\len*sz<=16777216/\(tiOf P e).isSome=true then
    some (.list (parts.toList.map fun p=>ρ p.2)) else none
 |_=>none
def xbox (ρ:Operand->AV) (hs:HS) (d:Option Nat) (t:Nat) (x:Operand):Option (AV×HS):=match d with
 |some _=>if (ρ x).one=true/\hs.room=true then some (.addr hs.n 0,hs.push (.ob (.cells t (ρ x).cells))) else none
 |none=>none
def xalloc (P:Program) (hs:HS) (t:Nat):Option (AV×HS):=match tiOf P t with
 |some ti=>if ti.zero.one=true/\hs.room=true then some (.addr hs.n 0,hs.push (.ob (.cells t ti.zero.cells))) else none
 |none=>none
def xstC (hs:HS) (ti:TI) (k off:Nat) (x:AV):Option (AV×HS):=match hm hs.h k with
 |some (.cells et cs)=>if hs.may k=true/\x.cells.length=ti.size/\off+ti.size<=cs.length/\x.one=true then some (.unit,hs.put k (.ob (.cells et (splice cs off x.cells)))) else none
 |_=>none
def xstE (hs:HS) (ti:TI) (k i sz off:Nat) (x:AV):Option (AV×HS):=match hm hs.h k with
 |some (.row et sz' g xs)=>if hs.may k=true/\sz=sz'/\x.cells.length=ti.size/\x.one=true then match xs[i]? with
   |some x0=>match elemPut x0 off x sz with
    |some v'=>some (.unit,hs.put k (.ob (.row et sz g (xs.set i v'))))
    |none=>none
   |none=>none
  else none
 |_=>none
def xstore (P:Program) (hs:HS) (t:Nat) (a x:AV):Option (AV×HS):=match tiOf P t,a with
 |some ti,.addr k off=>xstC hs ti k off x
 |some ti,.elem k i sz off=>xstE hs ti k i sz off x
 |_,_=>none
def xmput (P:Program) (hs:HS) (t:Nat) (m k x:AV):Option (AV×HS):=match tdAt P t,m,keyOf k with
 |some (.map kt et),.map b,some key=>match tdAt P kt,hm hs.h b with
  |some kd,some (.map es)=>if hs.may b=true/\keyFits kd key=true/\keysOk kd es=true then some (.unit,hs.put b (.ob (.map (assocSet key x es)))) else none
  |_,_=>none
 |_,_,_=>none
def xcall (C:Cfg) (ih:XTask->Option TOut) (hs:HS) (o:Oper) (f:AV) (args:List AV):Option (AV×HS):=match ih (.call f args hs) with
 |some (.call v hs')=>some (settleR (C.keep f o||hasYield (f::args)) hs v hs')
 |_=>none
def xbuilt (C:Cfg) (ρ:Operand->AV) (hs:HS) (o:Oper) (c:Call) (b:Builtin):Option (AV×HS):=match b with
 |.append=>match c.args.toList,c.argTypes.toList with
  |[s,x],[ts,tx]=>xapp C.P ts tx (ρ s) (ρ x) hs
  |_,_=>none
 |.copy=>match c.args.toList,c.argTypes.toList with
  |[d,x],[td,_]=>xcopy C.P td (ρ d) (ρ x) hs
  |_,_=>none
 |_=>xpure C ρ hs o
def xcalls (C:Cfg) (ih:XTask->Option TOut) (ρ:Operand->AV) (hs:HS) (o:Oper) (c:Call):Option (AV×HS):=match c.callee with
 |.value f=>xcall C ih hs o (ρ f) (c.args.toList.map ρ)
 |.builtin b=>xbuilt C ρ hs o c b
 |_=>none
def xrange (P:Program) (hs:HS) (t:Nat) (x:AV):Option (AV×HS):=match tdAt P t,x with
 |some .str,.val (.string s)=>if hs.room=true then some (.addr hs.n 0,hs.push (.ob (.siter s 0))) else none
 |_,_=>none
def xnext (hs:HS) (x:AV) (isS:Bool):Option (AV×HS):=match x,isS with
 |.addr b 0,true=>match hm hs.h b with
  |some (.siter s pos)=>if hs.may b=true then
    if pos<s.size then some (.tup [.bool true,.int pos,.val (.int .i32 (Utf8.decode s pos).1)],hs.put b (.ob (.siter s (pos+(Utf8.decode s pos).2))))
    else some (.tup [.bool false],hs)
   else none
  |_=>none
 |_,_=>none
def xsl (hs:HS):Option AV->Option (AV×HS)
 |some v=>some (v,hs)
 |none=>none
def xop (C:Cfg) (ih:XTask->Option TOut) (ρ:Operand->AV) (hs:HS) (o:Oper):Option (AV×HS):=
 match o.op with
 |.move x=>some (ρ x,hs)
 |.assign x=>some (ρ x,hs)
 |.box t x=>xbox ρ hs o.dst t x
 |.alloc t=>xalloc C.P hs t
 |.store t a x=>xstore C.P hs t (ρ a) (ρ x)
 |.buildSlice t len parts=>xsl hs (xslice C.P ρ t len parts)
 |.makeMap t none=>if hs.room=true then some (.map hs.n,hs.push (.ob (.map []))) else none
 |.mapUpdate t m k x=>xmput C.P hs t (ρ m) (ρ k) (ρ x)
 |.insert t m k x=>xmput C.P hs t (ρ m) (ρ k) (ρ x)
 |.call c=>xcalls C ih ρ hs o c
 |.panic _=>none
 |.entry _=>none
 |.range t x=>xrange C.P hs t (ρ x)
 |.next x isS=>xnext hs (ρ x) isS
 |_=>xpure C ρ hs o
def xq (C:Cfg) (ih:XTask->Option TOut) (ρ:Operand->AV) (hs:HS) (o:Oper):Option AV:=
 match o.op with
 |.call c=>match c.callee with
  |.value f=>match ih (.call (ρ f) (c.args.toList.map ρ) { hs with ro:=hs.n,rm:=hs.m }) with
   |some (.call v hs')=>match rsv hs'.h hs.n hs.m 64 v with
    |some g=>if gnd g then some g else none
    |none=>none
   |_=>none
  |_=>(xpure C ρ hs o).map (·.1)
 |.box _ x=>if (ρ x).one then some (.ref (ρ x).cells) else none
 |.buildSlice t len parts=>xslice C.P ρ t len parts
 |_=>(xpure C ρ hs o).map (·.1)
def XS.put (s:XS) (d:Option Nat) (v:AV) (hs:HS):XS:=⟨match d with|some i=>Tr.set 12 s.tr i v|none=>s.tr,hs⟩
def opStep (C:Cfg) (ih:XTask->Option TOut) (ops:Array Oper) (o:Oper) (s:XS):Option XS:=
 if wantA ops o s.tr.get then match xop C ih (ev C.G s.tr.get) s.hs o with
  |some (v,hs')=>some (s.put o.dst v hs')
  |none=>none
 else some (s.put o.dst .unit s.hs)
def runOps (C:Cfg) (ih:XTask->Option TOut) (ops:Array Oper):List Oper->XS->Option XS
 |[],s=>some s
 |o::rest,s=>match opStep C ih ops o s with
  |some s'=>runOps C ih ops rest s'
  |none=>none
def runOpsD (C:Cfg) (ih:XTask->Option TOut) (ops:Array Oper):List Oper->XS->Option XS
 |[],s=>some s
 |o::rest,s=>match o.op with
  |.defer c=>if wantA ops o s.tr.get&&o.dst.isNone then match c.callee with
    |.value f=>match ev C.G s.tr.get f with
     |.func (.func k) _ _=>if C.dq k then runOpsD C ih ops rest s else none
     |_=>none
    |_=>none
   else none
  |_=>match opStep C ih ops o s with
   |some s'=>runOpsD C ih ops rest s'
   |none=>none
def runQ (C:Cfg) (ih:XTask->Option TOut) (ops:Array Oper):List Oper->XS->Option XS
 |[],s=>some s
 |o::rest,s=>if wantA ops o s.tr.get then match xq C ih (ev C.G s.tr.get) s.hs o with
   |some v=>runQ C ih ops rest (s.put o.dst v s.hs)
   |none=>none
  else runQ C ih ops rest (s.put o.dst .unit s.hs)
def eqV:Value->Value->Bool
 |.int k a,.int k' b=>k==k'&&decide (a=b)
 |.bool a,.bool b=>a==b
 |.string a,.string b=>decide (a=b)
 |.tuple a,.tuple b=>a.size==0&&b.size==0
 |.pointer none,.pointer none=>true
 |.map none,.map none=>true
 |.slice none a b,.slice none c d=>a==c&&b==d
 |_,_=>false
mutual
def eqA:AV->AV->Bool
 |.val a,.val b=>eqV a b
 |.agg a,.agg b=>eqL a b
 |.tup a,.tup b=>eqL a b
 |.list a,.list b=>eqL a b
 |.ref a,.ref b=>eqL a b
 |.addr a b,.addr c d=>a==c&&b==d
 |.elem a b c d,.elem a' b' c' d'=>a==a'&&b==b'&&c==c'&&d==d'
 |.nil0,.nil0=>true
 |.mlist a b c,.mlist a' b' c'=>a==a'&&b==b'&&c==c'
 |.map a,.map b=>a==b
 |.imap a,.imap b=>eqP a b
 |.func f a b,.func f' a' b'=>decide (f=f')&&eqL a a'&&eqL b b'
 |.iface t a,.iface t' a'=>t==t'&&eqA a a'
 |_,_=>false
def eqL:List AV->List AV->Bool
 |[],[]=>true
 |a::l,b::l'=>eqA a b&&eqL l l'
 |_,_=>false
def eqP:List (AV×AV)->List (AV×AV)->Bool
 |[],[]=>true
 |(a,b)::l,(a',b')::l'=>eqA a a'&&eqA b b'&&eqP l l'
 |_,_=>false
end
def eqT:Tr->Tr->Bool
 |.leaf,.leaf=>true
 |.node v l r,.node v' l' r'=>eqA v v'&&eqT l l'&&eqT r r'
 |_,_=>false
def eqO:AObj->AObj->Bool
 |.cells t a,.cells t' a'=>t==t'&&eqL a a'
 |.row t s c a,.row t' s' c' a'=>t==t'&&s==s'&&c==c'&&eqL a a'
 |.map a,.map a'=>eqP a a'
 |.siter s p,.siter s' p'=>decide (s=s')&&p==p'
 |_,_=>false
def inP (k v:AV) (es:List (AV×AV)):Bool:=es.any fun e=>eqA k e.1&&eqA v e.2
def subH (h':Hp):Hp->Bool
 |[]=>true
 |(k,.pm es)::h=>(match hget h' k with
  |some (.pm es')=>nodupK es&&es.length==es'.length&&es.all (fun e=>inP e.1 e.2 es')
  |_=>false)&&subH h' h
 |(k,.ob o)::h=>(match hget h' k with
  |some (.ob o')=>eqO o o'
  |_=>false)&&subH h' h
 |_=>false
def eqH (h h':Hp):Bool:=subH h' h&&subH h h'
def eqS (a b:XS):Bool:=eqT a.tr b.tr&&eqH a.hs.h b.hs.h&&a.hs.n==b.hs.n&&a.hs.m==b.hs.m&&a.hs.lv==b.hs.lv&&a.hs.ro==b.hs.ro&&a.hs.rm==b.hs.rm
def quietKind (C:Cfg) (calls:Bool) (o:Oper):Bool:=match o.op with
 |.store .. | .alloc .. | .makeMap .. | .mapUpdate .. | .insert .. | .range .. | .next .. | .entry .. | .defer .. | .panic .. => false
 |.call c=>match c.callee with
  |.builtin .append | .builtin .copy=>false
  |.builtin _=>true
  |.value (.func f)=>calls&&!C.keep (.fn f) o
  |_=>false
 |_=>true
def qbits (C:Cfg) (calls:Bool) (ops:Array Oper):List Oper->Nat->List Nat->Nat->Nat
 |[],_,_,m=>m
 |o::l,i,bad,m=>if quietKind C calls o&&o.dst.isSome&&(o.looksAt ops).all (fun t=>!bad.contains t) then qbits C calls ops l (i+1) bad (m ||| (1 <<< i))
  else qbits C calls ops l (i+1) (match o.dst with|some d=>d::bad|none=>bad) m
def qset (C:Cfg) (calls:Bool) (ops:Array Oper) (i:Nat):Bool:=(qbits C calls ops ops.toList 0 [] 0).testBit i
def qAgain (C:Cfg) (ih:XTask->Option TOut) (ops:Array Oper) (tr:Tr) (hs:HS):List Nat->Bool
 |[]=>true
 |i::rest=>(match ops[i]? with
  |some o=>if wantA ops o tr.get then match xq C ih (ev C.G tr.get) hs o with
    |some v=>match o.dst with
     |some d=>eqA (tr.get d) v
     |none=>true
    |none=>false
   else match o.dst with
    |some d=>eqA (tr.get d) .unit
    |none=>true
  |none=>true)&&qAgain C ih ops tr hs rest
def lall (ops:Array Oper) (q:Nat->Bool) (L:Array Bool):Bool:=(List.range ops.size).all fun i=>q i||L.getD i false
def partStep (C:Cfg) (ih:XTask->Option TOut) (ops:Array Oper) (n0 K i:Nat) (o:Oper) (s:XS):Option XS:=
 match opStep C ih ops o ⟨s.tr,{ s.hs with n:=n0+i*K,m:=n0+i*K+K,lv:=s.hs.lv-1 }⟩ with
 |some s'=>some ⟨s'.tr,{ s'.hs with n:=s.hs.n,m:=s.hs.m,lv:=s.hs.lv }⟩
 |none=>none
def gen:Hp->Hp
 |[]=>[]
 |(k,.ob (.map es))::h=>(k,if Nat.blt 1 es.length&&nodupK es then .pm es else .ob (.map es))::gen h
 |e::h=>e::gen h
def genS (g:Bool) (s:XS):XS:=if g then ⟨s.tr,{ s.hs with h:=gen s.hs.h }⟩ else s
def mixGo (C:Cfg) (ih:XTask->Option TOut) (ops:Array Oper) (q:Nat->Bool) (g:Bool) (n0 K:Nat):Nat->Array Bool->List Nat->XS->Option XS
 |0,L,_,s=>if lall ops q L then some (genS g s) else none
 |f+1,L,pd,s=>match cready (wB (masksGo ops.toList [])) ops q L with
  |[]=>if lall ops q L then some (genS g s) else none
  |i::rest=>match ops[i]? with
   |some o=>match partStep C ih ops n0 K i o s with
    |some s'=>if qAgain C ih ops s'.tr s'.hs (pd.filter fun k=>!wB (masksGo ops.toList []) i k) then
      match mixGo C ih ops q g n0 K f (L.setIfInBounds i true) (pd.filter fun k=>!wB (masksGo ops.toList []) i k) s' with
      |some r=>if rest.all (fun j=>match ops[j]? with
        |some o=>match partStep C ih ops n0 K j o s with
         |some s'=>qAgain C ih ops s'.tr s'.hs (pd.filter fun k=>!wB (masksGo ops.toList []) j k) &&
          match mixGo C ih ops q g n0 K f (L.setIfInBounds j true) (pd.filter fun k=>!wB (masksGo ops.toList []) j k) s' with
          |some r'=>eqS r r'
          |none=>false
         |none=>false
        |none=>false) then some r else none
      |none=>none
     else none
    |none=>none
   |none=>none
def opersOf (ops:Array Oper) (q:Nat->Bool):List Oper:=((List.range ops.size).filter q).filterMap (ops[·]?)
def qdst (ops:Array Oper) (q:Nat->Bool):Bool:=(List.range ops.size).all fun i=>!q i||match ops[i]? with
 |some o=>o.dst.isSome
 |none=>true
def mixRun (C:Cfg) (ih:XTask->Option TOut) (ops:Array Oper) (q:Nat->Bool) (g:Bool) (s:XS):Option XS:=
 if mixOkW (wB (masksGo ops.toList [])) ops q&&qdst ops q&&Nat.ble (s.hs.n+ops.size*2 ^ (24*s.hs.lv)) s.hs.m then match runQ C ih ops (opersOf ops q) s with
  |some s1=>if qAgain C ih ops s1.tr s1.hs ((List.range ops.size).filter q) then match mixGo C ih ops q g s1.hs.n (2 ^ (24*s1.hs.lv)) ops.size (Array.replicate ops.size false) ((List.range ops.size).filter q) ⟨s1.tr,{ s1.hs with n:=s1.hs.n+ops.size*2 ^ (24*s1.hs.lv) }⟩ with
   |some r=>some r
   |none=>none
   else none
  |none=>none
 else none
def headK (C:Cfg) (ops:Array Oper):Option Nat:=((List.range (ops.size+1)).reverse.find? fun k=>(ops.toList.take k).all (quietKind C true)&&headOkW (wB (masksGo ops.toList [])) ops k).bind fun k=>if tailOk ops k then some k else none
def drawRun (C:Cfg) (ih:XTask->Option TOut) (ops:Array Oper) (s:XS):Option XS:=match headK C ops with
 |some k=>match runQ C ih ops (ops.toList.take k) s with
  |some s1=>runOps C ih ops (ops.toList.drop k) s1
  |none=>none
 |none=>none
def Tr.ofList:Nat->List AV->Tr->Tr
 |_,[],t=>t
 |i,a::xs,t=>Tr.ofList (i+1) xs (Tr.set 12 t i a)
def Tr.setPs:List Nat->List AV->Tr->Tr
 |p::ps,a::xs,t=>Tr.setPs ps xs (Tr.set 12 t p a)
 |_,_,t=>t
def jumpX:XT->Option Code
 |.ret=>some .ret
 |.exit i=>some (.exit i)
 |.goto i=>some (.goto i)
 |.normal=>none
def exitOf:Code->Option XT
 |.ret=>some .ret
 |.exit i=>some (.exit i)
 |.goto i=>some (.goto i)
 |_=>none
def finish (C:Cfg) (fn:Func) (s:XS):Option TOut:=
 match vresults C.P fn (hm s.hs.h) s.tr.get with
 |some v=>some (.call v s.hs)
 |none=>none
def sSeq (ih:XTask->Option TOut) (m:Nat) (rd:Bool) (b:Code):Option TOut->Option TOut
 |some (.code .normal s')=>ih (.code m rd b s')
 |o=>o
def sCond (ih:XTask->Option TOut) (m:Nat) (rd:Bool) (a b:Code) (s:XS):AV->Option TOut
 |.val (.bool true)=>ih (.code m rd a s)
 |.val (.bool false)=>ih (.code m rd b s)
 |_=>none
def sBlock (id:Nat):Option TOut->Option TOut
 |some (.code (.exit j) s')=>if j=id then some (.code .normal s') else some (.code (.exit j) s')
 |o=>o
def sScope:Option TOut->Option TOut
 |some (.code (.goto _) _)=>none
 |o=>o
def sReg:Option XS->Option TOut
 |some s'=>some (.code .normal s')
 |none=>none
def orElse' {α:Type}:Option α->(Unit->Option α)->Option α
 |some a,_=>some a
 |none,f=>f ()
def sDraw (C:Cfg) (ih:XTask->Option TOut) (ops:Array Oper) (s:XS):Option XS:=
 orElse' (drawRun C ih ops s) fun _=>orElse' (mixRun C ih ops (qset C true ops) false s) fun _=>orElse' (mixRun C ih ops (qset C false ops) false s) fun _=>mixRun C ih ops (qset C true ops) true s
def sEnd (l:Nat) (tr:Tr):Option TOut->Option TOut
 |some (.call _ hs')=>match hget hs'.h l with
  |some (.loop _ _ _ pend _ _)=>match pend with
   |none=>some (.code .normal ⟨tr,{ hs' with h:=hdel hs'.h l }⟩)
   |some j=>match exitOf j with
    |some x=>some (.code x ⟨tr,{ hs' with h:=hdel hs'.h l }⟩)
    |none=>none
  |_=>none
 |_=>none
def sRange (C:Cfg) (ih:XTask->Option TOut) (m:Nat) (ps:Array Nat) (asg body:Code) (s:XS):AV->Option TOut
 |.func (.func gf) first cap=>if s.hs.room&&Plain C.P gf&&ps.all (fun p=>decide (p<m))&&cok m asg&&cok m body then
   sEnd s.hs.n s.tr (ih (.call (.func (.func gf) first cap) [.func (.yield s.hs.n) [] []] (s.hs.push (.loop ps asg body none m s.tr))))
  else none
 |_=>none
def xcode (C:Cfg) (ih:XTask->Option TOut) (m:Nat) (rd:Bool) (s:XS):Code->Option TOut
 |.skip=>some (.code .normal s)
 |.label _=>some (.code .normal s)
 |.exit i=>some (.code (.exit i) s)
 |.goto l=>some (.code (.goto l) s)
 |.ret=>some (.code .ret s)
 |.seq a b=>sSeq ih m rd b (ih (.code m rd a s))
 |.cond c a b=>sCond ih m rd a b s (ev C.G s.tr.get c)
 |.block id b=>sBlock id (ih (.code m rd b s))
 |.scope b=>sScope (ih (.code m rd b s))
 |.loop b=>sSeq ih m rd (.loop b) (ih (.code m rd b s))
 |.region _ ops false=>sReg (if rd then runOps C ih ops ops.toList s else runOpsD C ih ops ops.toList s)
 |.region _ ops true=>sReg (sDraw C ih ops s)
 |.rangeFunc g ps asg body=>if rd then none else sRange C ih m ps asg body s (ev C.G s.tr.get g)
 |_=>none
def cHook (hs:HS) (g:List AV->Option AV) (all:List AV):Option TOut:=if gndL all then match g all with
  |some v=>some (.call v hs)
  |none=>none
 else none
def cClone (hs:HS) (e sz:Nat):List AV->Option TOut
 |[x]=>match srcOf (hm hs.h) x with
  |some ys=>if ∀ y∈ys,y.cells.length=sz then match ys with
    |[]=>some (.call .nil0 hs)
    |_=>if ys.length<=lim/\hs.room=true then some (.call (.mlist hs.n ys.length hs.n) (hs.push (.ob (.row e sz hs.n ys)))) else none
   else none
  |none=>none
 |_=>none
def cEnd (C:Cfg) (fn:Func):Option TOut->Option TOut
 |some (.code .normal s)=>finish C fn s
 |some (.code .ret s)=>finish C fn s
 |_=>none
def cBody (C:Cfg) (ih:XTask->Option TOut) (f:Nat) (all:List AV) (hs:HS):Option Func->Option TOut
 |some fn=>match fn.body with
  |some c=>if Plain C.P f&&cok fn.ntmps c&&decide (all.length<=fn.ntmps)&&decide (fn.ntmps<=4000) then
    cEnd C fn (ih (.code fn.ntmps false c ⟨Tr.ofList 0 all .leaf,hs⟩))
   else none
  |none=>none
 |none=>none
def cHooked (C:Cfg) (f:Nat) (all:List AV) (hs:HS):Option TOut:=match C.hook f with
 |some g=>cHook hs g all
 |none=>none
def cFunc (C:Cfg) (ih:XTask->Option TOut) (f:Nat) (all:List AV) (hs:HS):Option TOut:=orElse' (cHooked C f all hs) fun _=>match C.clone f with
 |some (e,sz)=>cClone hs e sz all
 |none=>cBody C ih f all hs C.P.funcs[f]?
def cYield2 (l:Nat) (ps:Array Nat) (asg body:Code) (m:Nat) (tr:Tr):Option TOut->Option TOut
 |some (.code x s2)=>some (.call (.bool (jumpX x).isNone) { s2.hs with h:=(l,.loop ps asg body (jumpX x) m tr)::s2.hs.h })
 |_=>none
def cYield1 (ih:XTask->Option TOut) (l:Nat) (ps:Array Nat) (asg body:Code) (m:Nat) (tr:Tr):Option TOut->Option TOut
 |some (.code .normal s1)=>cYield2 l ps asg body m tr (ih (.code m true body s1))
 |_=>none
def cYield (ih:XTask->Option TOut) (l:Nat) (args:List AV) (hs:HS):Option TOut:=match hget hs.h l with
 |some (.loop ps asg body none m tr)=>if hs.may l=true/\args.length=ps.size/\m<=4000 then
   cYield1 ih l ps asg body m tr (ih (.code m true asg ⟨Tr.setPs ps.toList args tr,{ hs with h:=hdel hs.h l }⟩))
  else none
 |_=>none
def xvalue (C:Cfg) (ih:XTask->Option TOut) (args:List AV) (hs:HS):AV->Option TOut
 |.func (.func f) first cap=>cFunc C ih f (first++args++cap) hs
 |.func (.yield l) [] []=>cYield ih l args hs
 |_=>none
def xstep (C:Cfg) (ih:XTask->Option TOut):XTask->Option TOut
 |.code m rd c s=>xcode C ih m rd s c
 |.call fv args hs=>xvalue C ih args hs fv
def run (C:Cfg):Nat->XTask->Option TOut
 |0,_=>none
 |n+1,t=>xstep C (run C n) t
end Go.V
