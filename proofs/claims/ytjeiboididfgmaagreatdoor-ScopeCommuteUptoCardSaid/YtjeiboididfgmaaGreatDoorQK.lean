/- The program's scope: what a node binds, its slices made by the caller. No condition. The program's scope: all bound names renamed. No condition. Regions in drawn order: an invariant over what is done. No condition. The program's scope: numbered names. No condition. The program's scope: Canon. No condition. The program's scope: Canon. No condition. -/
import Derived.Test.YtjeiboididfgmaaGreatDoorQH
import Derived.Test.YtjeiboididfgmaaGreatDoorQJ
import Derived.Test.YtjeiboididfgmaaGreatDoorQYf
set_option linter.unusedVariables false
set_option linter.unusedSimpArgs false
set_option linter.defProp false
set_option maxRecDepth 100000
namespace Go.V
open Go Go.Proofs.Tryz
section
variable {G:GT} {H:HM}
end
theorem elemPut_str (a b:ByteArray):elemPut (.str a) 0 (.str b) 1=some (.str b):=rfl
theorem VW_thenC {P:Program} {G:GT} {n:Nat} {r:Option Nat} {Q:AX->AS->Prop} {K:AS->Prop} {s:AS} (R:AS->Prop) {c:Code} (h:VW P G n r c (AX.then R Q) s) (hr:∀ s',R s'->K s'):VW P G n r c (AX.then K Q) s:=
 h.mono fun x s' hx=>by cases x<;>first|exact hr _ hx|exact hx
def zc:List AV:=[.int 0,.int 0,.str emp,.str emp,.nil0,.nil0,.nil0]
def Sl (H Hc:HM) (v:AV) (e sz:Nat) (ys:List AV):Prop:=(ys=[]/\v=.nil0)\/∃ b cap,v=.mlist b ys.length cap/\Hc b=some (.row e sz cap ys)/\H b=none
theorem Sl.one {H Hc:HM} {v:AV} {e sz:Nat} {ys:List AV} (h:Sl H Hc v e sz ys):v.one=true/\v.cells=[v]:=by
 rcases h with ⟨_,rfl⟩|⟨_,_,rfl,_⟩<;>exact ⟨rfl,rfl⟩
theorem Sl.keep {H Hc Hd:HM} {v:AV} {e sz:Nat} {ys:List AV} (h:Sl H Hc v e sz ys) (hk:∀ b cap,Hc b=some (.row e sz cap ys)->H b=none->Hd b=Hc b):Sl H Hd v e sz ys:=by
 rcases h with h|⟨b,cap,h1,h2,h3⟩
 ·exact .inl h
 ·exact .inr ⟨b,cap,h1,by rw[hk b cap h2 h3];exact h2,h3⟩
theorem Sl.len {H Hc:HM} {v:AV} {e sz:Nat} {ys:List AV} (h:Sl H Hc v e sz ys):vlenb Hc (some (.slice e sz)) v=some (.int ys.length):=by
 rcases h with ⟨rfl,rfl⟩|⟨b,cap,rfl,h2,_⟩<;>rfl
theorem Sl.view {G:GT} {H Hc H1:HM} {v:AV} {e sz:Nat} {ys:List AV} (h:Sl H Hc v e sz ys) (hd:Drop Hc H1) (hf:∀ b,H b=none->H1 b=none) (hl:ys.length<=lim):View G Hc H1 v (.list ys):=by
 rcases h with ⟨rfl,rfl⟩|⟨b,cap,rfl,h2,h3⟩
 ·exact View.nil0 hd
 ·exact View.row hd h2 (hf b h3) rfl hl
theorem OutX.one {H0 H:HM} {v:AV} {e sz:Nat} {xs:List AV} (h:OutX H0 H v e sz xs):v.one=true/\v.cells=[v]:=by
 rcases h with ⟨_,rfl,_⟩|⟨_,_,_,rfl,_⟩<;>exact ⟨rfl,rfl⟩
theorem OutX.get {H0 H:HM} {v:AV} {e sz:Nat} {xs:List AV} {b:Nat} {o:AObj} (h:OutX H0 H v e sz xs) (hb:H0 b=some o):H b=some o:=by
 rcases h with ⟨_,_,rfl⟩|⟨b',_,h1,_,rfl⟩
 ·exact hb
 ·rw[HM.upd_ne _ _ (fun q=>by rw[q,h1] at hb;cases hb)];exact hb
theorem OutX.sl {H H0 Hc:HM} {v:AV} {e sz:Nat} {xs:List AV} (h:OutX H0 Hc v e sz xs) (h0:∀ b,H0 b=none->H b=none):Sl H Hc v e sz xs:=by
 rcases h with ⟨h1,h2,_⟩|⟨b,cap,h1,h2,rfl⟩
 ·exact .inl ⟨h1,h2⟩
 ·exact .inr ⟨b,cap,h2,HM.upd_same _ _ _,h0 b h1⟩
theorem Sl.other {H Hc:HM} {v:AV} {e sz:Nat} {ys:List AV} {b:Nat} {o:AObj} (h:Sl H Hc v e sz ys) (hb:H b≠none\/∀ cap ys,Hc b≠some (.row e sz cap ys)):Sl H (Hc.upd b o) v e sz ys:=
 h.keep fun b' cap h1 h2=>HM.upd_ne _ _ fun q=>by
  subst q
  rcases hb with h|h
  ·exact h h2
  ·exact h _ _ h1
theorem strs_set (l:List ByteArray) (i:Nat) (s:ByteArray):(strs l).set i (.str s)=strs (l.set i s):=by simp[strs,List.map_set]
section
variable {α:Type} (nx:α->ByteArray->Bool->ByteArray×α)
end
section
variable {α:Type} (nx:α->ByteArray->Bool->ByteArray×α)
end
section
variable {α:Type} {nx:α->ByteArray->Bool->ByteArray×α} {cnt:α->Nat}
end
section
variable {α:Type} (nx:α->ByteArray->Bool->ByteArray×α)
end
section
variable {α:Type} {nx:α->ByteArray->Bool->ByteArray×α} {cnt:α->Nat}
end
section
variable {G:GT} {α:Type} {nx:α->ByteArray->Bool->ByteArray×α} {o1 o2:α->AObj} {cnt:α->Nat} {top:Nat} {b1 b2:Nat} {g:FuncId} {cap:List AV}
end
section
variable {P:Program} {G:GT} {n:Nat} {r:Option Nat} {Q:AX->AS->Prop}
end
theorem assoc_kv (s:ByteArray):∀ l:List ByteArray,assoc (.string s) (kv l)=if has l s then some (.bool true) else none
 |[]=>rfl
 |x::l=>by
  have ih:=assoc_kv s l
  show (if sameKeyV (.string s) (.string x) then some (AV.bool true) else assoc (.string s) (kv l))=_
  rw[has_cons]
  by_cases h:x=s
  ·subst h
   have h1:sameKeyV (.string x) (.string x)=true:=(ba_beq x x).2 rfl
   rw[if_pos h1,decide_eq_true rfl,Bool.true_or,if_pos rfl]
  ·have h1:¬ sameKeyV (.string s) (.string x)=true:=fun hq=>h ((ba_beq s x).1 hq).symm
   rw[if_neg h1,ih,decide_eq_false h,Bool.false_or]
theorem vlk_kv (l:List ByteArray) (s:ByteArray):vlk (some .str) (some ⟨.bool,1,1,.val (.bool false)⟩) (kv l) (.string s) false=some (.bool (has l s)):=by
 simp only[vlk,kv_keysOk,assoc_kv,keyFits,Bool.and_self,↓reduceIte]
 by_cases h:has l s=true
 ·simp[h]
 ·simp[h]
theorem updH_self {H:HM} {b:Nat} {o:AObj} (h:H b=some o):H.upd b o=H:=by
 funext k
 by_cases q:k=b
 ·rw[q,HM.upd_same,h]
 ·rw[HM.upd_ne _ _ q]
section
variable {G:GT} {H:HM}
end
section
variable {G:GT} {H:HM}
end
def zeroEx:Ex:=.mk 0 0 emp emp [] [] []
section
variable {H:HM}
end
end Go.V
