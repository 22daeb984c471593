import Derived.Test.YtaabgmbjmfjdjaaGreatDoorJPackedUpEtc
import Derived.Laws.CopyOwn
import Derived.Laws.NewBlocks
import Derived.Lib.Overlaps
import Derived.Lib.AppendZerosOnto
import Derived.Deep.RegionLaw
import Derived.Shelf.RegionOpen
import Derived.Lib.JoinLaws
import Derived.Test.YtaabgmbjmfjdjaaGreatDoorJSortSeqEtc
import Derived.Test.YtaabgmbjmfjdjaaGreatDoorJTreePlains
import Derived.Deep.CutRange
import Derived.Test.YtaabgmbjmfjdjaaGreatDoorJToldEtc
import Derived.Test.YtaabgmbjmfjdjaaGreatDoorJTreeLoops
import Derived.Test.YtaabgmbjmfjdjaaGreatDoorJPathedEtc
import Derived.Test.YtaabgmbjmfjdjaaGreatDoorJPlainly
import Derived.Test.YtaabgmbjmfjdjaaGreatDoorJParsedEtc
import Derived.Test.YtaabgmbjmfjdjaaGreatDoorJRowedEtc
import Derived.Test.YtaabgmbjmfjdjaaGreatDoorJErrors
import Derived.IntWalk
import Derived.OneCell
import Derived.Shelf.Abstract
import Derived.Test.YtaabgmbjmfjdjaaGreatDoorJShelf
import Derived.Deep.QuietTactic
import Derived.BigQuiet
namespace Go.Proofs.YtaabgmbjmfjdjaaGreatDoor
open Go Go.RowKit Go.Sort
set_option maxHeartbeats 1000000
set_option maxRecDepth 100000
theorem run_copy_rowK {P:Program} (w:World) (dT sT ty elem:TypeId) (g o dLen dCap:Nat) (a:Addr) (sLen sCap k n:Nat) (cur:Array Value) (t:TypeId) (cs:List Value)
  (hu:P.underlying dT=some (.slice elem)) (hs:(P.info? elem).map (·.size)=some k)
  (hg:w.heap[g]? =some (.cells cur t (0,0))) (hn:n=Nat.min sLen dLen) (hcs:cs.length=n*k)
  (hsrc:∀j v,cs[j]? =some v→w.cell? (a.add j)=some v) (hfit:o+cs.length≤cur.size) (h1:∀v∈cs,v.oneCell'=true):
  (Builtin.copy_ #[dT,sT] ty #[.slice (some ⟨g,o,none⟩) dLen dCap,.slice (some a) sLen sCap]).run P w=
   .ok (goInt n) (w.setRow g (splice cur.toList o cs).toArray):=by
 have hl:=run_loadCells_list (P:=P) w a cs hsrc;have hst:=run_storeCells_at P g o t cs 0 cur w hg (by simpa using hfit) h1
 cases hq:P.info? elem with
 |none=>simp [hq] at hs
 |some i=>
  have hi:i.size=k:=by simpa [hq] using hs
  rw [hcs] at hl;simp only [Nat.add_zero] at hst;simp [Builtin.copy_,run_underlying hu,Builtin.lenOf,Builtin.firstCells,sizeOf,typeInfo,hq,hi,←hn,hl,hst,splice]
theorem step_copyR {P:Program} {ops:Array Oper} {o:Oper} {a:Act} {w:World} {K:Act→World→Prop} {Q:Exit→Act→World→Prop} {E:Prop}
  (hg:o.guard=none) (d x:Operand) (dT sT:TypeId) (hop:o.op=Op.call {callee:=Callee.builtin Builtin.copy,args:=#[d,x],argTypes:=#[dT,sT]})
  (v u:Value) (hd:a.eval d=v) (hx:a.eval x=u) {v':Value} {w':World} (hr:(Builtin.copy_ #[dT,sT] o.type #[v,u]).run P w=.ok v' w') (hK:K (a.put o.dst v') w'):
  if Region.wanted o (yielded ops a.tmps)=true then Oper.wp P o a w K Q else E:=by
 have hw:Region.wanted o (yielded ops a.tmps)=true:=by simp [Region.wanted,hg]
 rw [if_pos hw];unfold Oper.wp;simp [execOp,hop,resolve,invoke,builtin,hd,hx,hr,Result.andThen];exact hK
theorem splice_len {α:Type} (L:List α) (o:Nat) (cs:List α) (h:o+cs.length≤L.length):(splice L o cs).length=L.length:=length_splice L o cs h
theorem take_is {α:Type} {M A R:List α} {n:Nat} (h:M=A++R) (hn:A.length=n):M.take n=A:=by rw [h,←hn,List.take_left]
theorem splice_up {α:Type} (L xs e:List α) (a:Nat) (ha:a≤xs.length) (hL:xs.length+e.length≤L.length) (ht:L.take xs.length=xs):
  (splice (splice L (a+e.length) (xs.drop a)) a e).take (xs.length+e.length)=xs.take a++(e++xs.drop a):=by
 have hd:(xs.drop a).length=xs.length-a:=List.length_drop;have e0:L.take a=xs.take a:=by
  have:(L.take xs.length).take a=L.take a:=by rw [List.take_take,Nat.min_eq_left ha]
  rw [←this,ht]
 have e1:(splice L (a+e.length) (xs.drop a)).take a=xs.take a:=by
  unfold splice;rw [List.take_append_of_le_length (by rw [List.length_take];omega),List.take_take,Nat.min_eq_left (by omega),e0]
 have e2:(splice L (a+e.length) (xs.drop a)).drop (a+e.length)=xs.drop a++L.drop (a+e.length+(xs.drop a).length):=by
  unfold splice;exact List.drop_left' (by rw [List.length_take];omega)
 refine take_is (R:=L.drop (a+e.length+(xs.drop a).length)) ?_ (by rw [List.length_append,List.length_append,List.length_take,hd];omega);show (splice L (a+e.length) (xs.drop a)).take a++(e++(splice L (a+e.length) (xs.drop a)).drop (a+e.length))=_;rw [e1,e2];simp only [List.append_assoc]
theorem splice_new {α:Type} (L xs e:List α) (a:Nat) (ha:a≤xs.length) (_:xs.length+e.length≤L.length) (ht:L.take a=xs.take a):
  (splice (splice L a e) (a+e.length) (xs.drop a)).take (xs.length+e.length)=xs.take a++(e++xs.drop a):=by
 have hd:(xs.drop a).length=xs.length-a:=List.length_drop;have e1:(splice L a e).take (a+e.length)=xs.take a++e:=by
  refine take_is (R:=L.drop (a+e.length)) ?_ (by rw [List.length_append,List.length_take];omega);show L.take a++(e++L.drop (a+e.length))=_;rw [ht,List.append_assoc]
 refine take_is (R:=(splice L a e).drop (a+e.length+(xs.drop a).length)) ?_ (by rw [List.length_append,List.length_append,List.length_take,hd];omega);show (splice L a e).take (a+e.length)++(xs.drop a++(splice L a e).drop (a+e.length+(xs.drop a).length))=_;rw [e1];simp only [List.append_assoc]
theorem row_cells {w:World} {g:Nat} {cur:Array Value} {t:TypeId} {xs:List Value} (hg:w.heap[g]? =some (.cells cur t (0,0))) (ht:cur.toList.take xs.length=xs):∀j v,xs[j]? =some v→w.cell? ⟨g,j,none⟩=some v:=by
 intro j v hj;have hl:j<xs.length:=(List.getElem?_eq_some_iff.1 hj).1;rw [←ht,List.getElem?_take_of_lt hl,Array.getElem?_toList] at hj;simp [World.cell?,hg,hj]
theorem enc_len (l:List FileB):(l.flatMap encFile).length=l.length*3:=flatMap_len encFile 3 (fun _=>rfl) l
theorem enc_take:∀(l:List FileB) (i:Nat),(l.flatMap encFile).take (i*3)=(l.take i).flatMap encFile
 | [],i=>by simp
 |f::l,0=>by simp
 |f::l,i+1=>by
  rw [List.take_succ_cons,List.flatMap_cons,List.flatMap_cons,←enc_take l i,show (i+1)*3=(encFile f).length+i*3 by show _=3+_;omega,List.take_length_add_append]
theorem enc_drop:∀(l:List FileB) (i:Nat),(l.flatMap encFile).drop (i*3)=(l.drop i).flatMap encFile
 | [],i=>by simp
 |f::l,0=>by simp
 |f::l,i+1=>by
  rw [List.drop_succ_cons,List.flatMap_cons,←enc_drop l i,show (i+1)*3=(encFile f).length+i*3 by show _=3+_;omega,List.drop_length_add_append]
theorem setRow_block {w:World} {g:Nat} {cur c':Array Value} {t:TypeId} (hg:w.heap[g]? =some (.cells cur t (0,0))):(w.setRow g c').heap[g]? =some (.cells c' t (0,0)):=setRow_heap w g cur c' t (0,0) hg
section
open Go.Lib
end
theorem splice_take {α:Type} (L cs:List α) (o n:Nat) (h:o+cs.length≤n) (hn:n≤L.length):(splice L o cs).take n=splice (L.take n) o cs:=by
 unfold splice;rw [List.take_append,List.take_append,List.take_take,List.take_take,List.length_take,List.drop_take,Nat.min_eq_right (show o≤n by omega),Nat.min_eq_left (show o≤n by omega),Nat.min_eq_left (show o≤L.length by omega),List.take_of_length_le (l:=cs) (by omega),show n-o-cs.length=n- (o+cs.length) by omega]
theorem set3 {α:Type} (L:List α) (o:Nat) (x y z:α) (h:o+3≤L.length):((L.set o x).set (o+1) y).set (o+2) z=splice L o [x,y,z]:=by
 apply List.ext_getElem?;intro j;unfold splice;simp only [List.getElem?_set,List.getElem?_append,List.length_take,List.length_cons,List.length_nil,List.getElem?_take,List.getElem?_drop,List.length_set];rw [Nat.min_eq_left (show o≤L.length by omega)];by_cases c1:j<o
 ·rw [if_neg (by omega),if_neg (by omega),if_neg (by omega),if_pos c1,if_pos c1]
 ·by_cases c2:j<o+3
  ·have:j=o∨j=o+1∨j=o+2:=by omega
   have h0:o<L.length:=by omega
   have h1:o+1<L.length:=by omega
   have h2:o+2<L.length:=by omega
   rcases this with rfl|rfl|rfl
   ·simp [h0]
   ·simp [h1];omega
   ·simp [h2];omega
  ·rw [if_neg (by omega),if_neg (by omega),if_neg (by omega),if_neg c1,if_neg (by omega)];congr 1;omega
theorem FOwn.over {w:World} {base g cap k:Nat} {cur:Array Value} {l:List FileB} (f:FileB) (hb:base≤g) (hg:w.heap[g]? =some (.cells cur 170 (0,0))) (hn:l.length≤cap) (hc:cap≤maxLen) (hs:cur.size=cap*3) (ht:cur.toList.take (l.length*3)=l.flatMap encFile) (hk:k<l.length):
  FOwn (((w.setCell ⟨g,k*3,none⟩ (.string f.path)).setCell ⟨g,k*3+1,none⟩ (.bool f.run)).setCell ⟨g,k*3+2,none⟩ (.string f.text)) base (.slice (some ⟨g,0,none⟩) l.length cap) (l.take k++f::l.drop (k+1))∧
  Below base w (((w.setCell ⟨g,k*3,none⟩ (.string f.path)).setCell ⟨g,k*3+1,none⟩ (.bool f.run)).setCell ⟨g,k*3+2,none⟩ (.string f.text)):=by
 have e1:=setCell_eq_setRow w g (k*3) cur 170 (0,0) (.string f.path) hg;have g1:=setRow_block (c':=cur.setIfInBounds (k*3) (.string f.path)) hg;have e2:=setCell_eq_setRow _ g (k*3+1) _ 170 (0,0) (.bool f.run) g1;have g2:=setRow_block (c':=(cur.setIfInBounds (k*3) (.string f.path)).setIfInBounds (k*3+1) (.bool f.run)) g1;have e3:=setCell_eq_setRow _ g (k*3+2) _ 170 (0,0) (.string f.text) g2;have g3:=setRow_block (c':=((cur.setIfInBounds (k*3) (.string f.path)).setIfInBounds (k*3+1) (.bool f.run)).setIfInBounds (k*3+2) (.string f.text)) g2;rw [e1,e2,e3];refine ⟨?_,below_setRow (below_setRow (below_setRow (Below.refl _ _) hb _) hb _) hb _⟩;have hlen:(l.take k++f::l.drop (k+1)).length=l.length:=by simp;omega
 have hL:cur.toList.length=cap*3:=by rw [Array.length_toList,hs]
 have hM:(((cur.setIfInBounds (k*3) (.string f.path)).setIfInBounds (k*3+1) (.bool f.run)).setIfInBounds (k*3+2) (.string f.text)).toList.take (l.length*3)=(l.take k++f::l.drop (k+1)).flatMap encFile:=by
  rw [Array.toList_setIfInBounds,Array.toList_setIfInBounds,Array.toList_setIfInBounds,set3 _ _ _ _ _ (by omega),splice_take _ _ _ _ (by show k*3+3≤_;omega) (by omega),ht];unfold splice;rw [List.flatMap_append,List.flatMap_cons,←enc_take,←enc_drop,show k*3+[Value.string f.path,.bool f.run,.string f.text].length=(k+1)*3 by show _+3=_;omega]
 show World.ownsRow _ _ _ _ _ _ _;rw [hlen];exact ⟨by rw [enc_len,hlen],.inr ⟨g,cap,_,rfl,hb,g3,hn,hc,by simp [hs],hM⟩⟩
theorem TreeOk.small {l:List FileB} (h:TreeOk l):∀f∈l,SmallF f∧f.path.size≤9000:=fun f hf=>by
 obtain ⟨h1,h2⟩:=h.each f hf;have h3:(bl f.path).length≤78:=by
  have:=path_clean h1;have:=cleanT_len this.1;rwa [(path_clean h1).2] at this
 rw [bl_length] at h3;exact ⟨⟨by omega,by omega⟩,by omega⟩
theorem FRow.len {w:World} {v:Value} {l:List FileB} (h:FRow w v l):∃ao cap,v=.slice ao l.length cap:=by
 obtain ⟨ao,cap,e,_⟩:=h;exact ⟨ao,cap,e⟩
theorem wf_len {n:Nat} (h:n≤1000000):(Lit.int .i64 (n:Int)).wf=true:=by
 have h1:IntKind.i64.min= -9223372036854775808:=rfl;have h2:IntKind.i64.max=9223372036854775807:=rfl;simp [Lit.wf,h1,h2];omega
theorem bl_from (s:ByteArray) (i:Nat):bl (s.extract i s.size)=(bl s).drop i:=by
 rw [bl_extract,List.take_of_length_le];rw [List.length_drop,bl_length];omega
theorem number_at (s:ByteArray) (i:Nat) (w:World) (hs:s.size≤1073741824):
  Calls Tryz.prog 267 #[.string (s.extract i s.size)] w fun e w'=>∃n k:Nat,
   e=.returned (.tuple #[.int .i64 n,.int .i64 k])∧Hid (numGo ((bl s).drop i) 0 0=(n,k))∧n<1000000000∧i+k≤max i s.size∧w=w':=by
 refine (number_any _ w (by rw [ByteArray.size_extract];omega)).mono ?_;rintro e w' ⟨rfl,rfl⟩;rw [bl_from];refine ⟨_,_,rfl,rfl,numGo_lt _,?_,rfl⟩;have:=numGo_le ((bl s).drop i) 0 0;rw [List.length_drop,bl_length] at this;omega
def EachEnd (E:Nat→Addr) (I:List (Nat×UInt8)→World→Prop) (r:List (Nat×UInt8)×Option Nat) (e:Ending) (w':World):Prop:=
 match r.2 with
 |none=>e=.returned .nilIface∧I r.1 w'
 |some p=>∃W,I r.1 W∧e=.returned (.iface 70 (.pointer (some ⟨W.heap.size,0,none⟩)))∧w'=W.alloc (.cells #[.int .i64 p,sentV E 0] 74)
theorem EachEnd.err {E:Nat→Addr} {I:List (Nat×UInt8)→World→Prop} {r:List (Nat×UInt8)×Option Nat} {acc:List (Nat×UInt8)} {p:Nat} {W:World} (h:r=(acc,some p)) (hI:I acc W) (q:Int) (hq:q=p):
  EachEnd E I r (.returned (.iface 70 (.pointer (some ⟨W.heap.size,0,none⟩)))) (W.alloc (.cells #[.int .i64 q,sentV E 0] 74)):=by
 subst h;subst hq;exact ⟨W,hI,rfl,rfl⟩
theorem EachEnd.ok {E:Nat→Addr} {I:List (Nat×UInt8)→World→Prop} {r:List (Nat×UInt8)×Option Nat} {acc:List (Nat×UInt8)} {W:World} (h:r=(acc,none)) (hI:I acc W):
  EachEnd E I r (.returned .nilIface) W:=by
 subst h;exact ⟨rfl,hI⟩
theorem each_any {E:Nat→Addr} (s:ByteArray) (w:World) (hs:s.size≤1073741824) (g:Nat) (cb:Array Value) (I:List (Nat×UInt8)→World→Prop)
  (eg:∀args w,(callFunc g args).run Tryz.prog w=.ok (.enter g args) w)
  (hdo:∀acc (n:Nat) (c:UInt8) W,I acc W→n<1000000000→(∃rest,acc++(n,c)::rest=(runsL (bl s)).1)→Calls Tryz.prog g (#[.int .i64 n,.int .u8 c.toNat]++cb) W fun e W'=>e=.returned (.tuple #[])∧I (acc++[(n,c)]) W')
  (hE:∀acc W,I acc W→W.cell? ⟨2,0,none⟩=some (sentV E 0)) (h0:I [] w):
  Calls Tryz.prog 262 #[.string s,.func (.func g) #[] cb] w (EachEnd E I (runsL (bl s))):=by
 have HD:=Lib.hid hdo;have HE:=Lib.hid hE;clear hdo hE;go_enter Tryz.func262,Tryz.ntmps262;go_wp2_with fail;go_loopw [4,5] (fun z i wr=>∃(k:Nat) (acc:List (Nat×UInt8)),k≤s.size∧i=.int .i64 k∧z=.nilIface∧acc.length≤k∧Hid (PP s k acc)∧Hid (I acc wr)) (fun _ i _=>s.size- (intOf i).toNat)
 case atStart=>exact ⟨0,[],Nat.zero_le _,rfl,rfl,Nat.le_refl _,PP.start s,h0⟩
 case round=>
  obtain ⟨i,acc,hi,rfl,rfl,hacc,HP,HI⟩:=hrel;clear h0;have hE0:=HE.out _ _ HI.out;by_cases hlt:i<s.size
  ·have sf:∀W:World,(Instr.slice 9 (.string s) (some (.int .i64 (i:Int))) none none).run Tryz.prog W=.ok (.string (s.extract i s.size)) W:=slice_from s _ i hi rfl;go_wp2_with fail;refine (number_at s i _ hs).mono ?_;rintro e w1 ⟨n,k,rfl,HN,hn9,hik,rfl⟩;clear sf;have hik2:i+k≤s.size:=by omega
   have HN2:Hid ((numGo ((bl s).drop i) 0 0).2=k):=by show _=_;rw [HN.out]
   by_cases hk0:k=0
   ·subst hk0;have HF:Hid (runsL (bl s)=(acc,some i)):=HP.out.fail fun f=>parse_none hlt HN2.out
    clear HP HN HN2;go_wp2_with fail;go_ret;exact EachEnd.err HF.out HI.out _ (by omega)
   ·have hkb:((k:Int)==0)=false:=by simp;omega
    by_cases he:i+k=s.size
    ·have HF:Hid (runsL (bl s)=(acc,some (i+k))):=HP.out.fail fun f=>parse_end hlt HN2.out hk0 he
     have heb:((i:Int)+k==s.size)=true:=by simp;omega
     have he2:s.size≤i+k:=by omega
     clear HP HN HN2 he;go_wp2_with fail;go_ret;exact EachEnd.err HF.out HI.out _ (by omega)
    ·have he2:i+k<s.size:=by omega
     have heb:((i:Int)+k==s.size)=false:=by simp;omega
     have e3:∀W:World,(Instr.index 9 (.string s) (.int .i64 ((i:Int)+k))).run Tryz.prog W=.ok (.int .u8 s[i+k].toNat) W:=index_nat s _ (i+k) he2 (by omega);by_cases hc:s[i+k]=58
     ·have hcb:(((s[i+k].toNat:Nat):Int) != 58)=false:=by rw [hc];rfl
      by_cases hl:i+k+1=s.size
      ·have HF:Hid (runsL (bl s)=(acc,some (i+k+1))):=HP.out.fail fun f=>parse_last hlt HN2.out hk0 he2 hc hl
       have hlb:((i:Int)+k+1==s.size)=true:=by simp;omega
       clear HP HN HN2 he hc hl;go_wp2_with fail;go_ret;exact EachEnd.err HF.out HI.out _ (by omega)
      ·have hl2:i+k+1<s.size:=by omega
       have hlb:((i:Int)+k+1==s.size)=false:=by simp;omega
       have HS:Hid (PP s (i+k+2) (acc++[(n,s[i+k+1])])):=by
        have:=HP.out.step hlt HN2.out hk0 hl2 hc;rw [HN.out] at this;exact this
       have e4:∀W:World,(Instr.index 9 (.string s) (.int .i64 ((i:Int)+k+1))).run Tryz.prog W=.ok (.int .u8 s[i+k+1].toNat) W:=index_nat s _ (i+k+1) hl2 (by omega);have hcall:=HD.out acc n s[i+k+1] wr HI.out hn9 HS.out.rest;have HC:=Lib.hid hcall;clear HP HN HN2 he hc hl hcall;go_wp2_with fail;refine HC.out.mono ?_;rintro e w2 ⟨rfl,hI2⟩;have HI2:=Lib.hid hI2;clear hI2 HC e3 e4 hE0;go_wp2_with fail;go_roundw
       case rel=>exact ⟨i+k+2,acc++[(n,s[i+k+1])],by omega,by go_num,rfl,by simp;omega,HS,HI2⟩
       case measure=>simp [intOf];omega
     ·have HF:Hid (runsL (bl s)=(acc,some (i+k))):=HP.out.fail fun f=>parse_sign hlt HN2.out hk0 he2 hc
      have hcb:(((s[i+k].toNat:Nat):Int) != 58)=true:=by
       rw [bne_iff_ne];intro h;exact hc (UInt8.toNat_inj.1 (by show _=58;omega))
      clear HP HN HN2 he hc;go_wp2_with fail;go_ret;exact EachEnd.err HF.out HI.out _ (by omega)
  ·have HF:Hid (runsL (bl s)=(acc,none)):=HP.out.done hlt;clear HP;go_wp2_with fail;go_ret;exact EachEnd.ok HF.out HI.out
theorem size1_any (n:Nat) (c:UInt8) (b a:Nat) (w:World) (ha:a+n≤9223372036854775807) (hc:w.cell? ⟨b,0,none⟩=some (.int .i64 a)) (hf:w.frozen? ⟨b,0,none⟩=false):
  Calls Tryz.prog 266 #[.int .i64 n,.int .u8 c.toNat,.pointer (some ⟨b,0,none⟩)] w fun e w'=>e=.returned (.tuple #[])∧w'=w.setCell ⟨b,0,none⟩ (.int .i64 ((a:Int)+n)):=by
 go_enter Tryz.func266,Tryz.ntmps266
 go_wp2
 go_end0
 exact ⟨rfl,rfl⟩
def errR:Option Nat→Er
 |none=>Er.nil
 |some p=>Er.fault p 1
def sizeR (r:List (Nat×UInt8)×Option Nat):Nat:=match r.2 with
 |none=>sumR r.1
 |some _=>0
theorem sizeR_none {r:List (Nat×UInt8)×Option Nat} (h:r.2=none):sizeR r=sumR r.1:=by unfold sizeR;rw [h]
theorem sizeR_some {r:List (Nat×UInt8)×Option Nat} {p:Nat} (h:r.2=some p):sizeR r=0:=by unfold sizeR;rw [h]
def SizeInv (w:World) (acc:List (Nat×UInt8)) (W:World):Prop:=
 W.heap[w.heap.size]? =some (.cells #[.int .i64 (sumR acc:Nat)] 3 (0,0))∧Below w.heap.size w W
theorem size_any {E:Nat→Addr} (s:ByteArray) (w:World) (hs:s.size≤1073741824) (hE:Env E w):
  Calls Tryz.prog 261 #[.string s] w fun e w'=>∃v,e=.returned (.tuple #[.int .i64 (sizeR (runsL (bl s)):Nat),v])∧IsErr E w' v (errR (runsL (bl s)).2)∧Below w.heap.size w w':=by
 have eg:∀args w,(callFunc 266 args).run Tryz.prog w=.ok (.enter 266 args) w:=enters_of Tryz.func266 (by kernel_rfl) rfl;have hsum:=runs_sum (bl s);rw [bl_length] at hsum;have hEach:=each_any (E:=E) s (w.alloc (.cells #[.int .i64 0] 3)) hs 266 #[.pointer (some ⟨w.heap.size,0,none⟩)] (SizeInv w) eg
  (fun acc n c W hI hn hrest=>by
   obtain ⟨rest,hr⟩:=hrest;obtain ⟨hc,hb⟩:=hI;have hle:sumR acc+n≤9223372036854775807:=by
    rw [←hr,sumR_append,sumR_cons] at hsum;simp only at hsum;omega
   refine (size1_any n c w.heap.size (sumR acc) W hle (by simp [World.cell?,hc]) (by simp [World.frozen?,hc])).mono ?_;rintro e W' ⟨rfl,rfl⟩;refine ⟨rfl,?_,hb.setCell (Nat.le_refl _) _⟩;rw [sumR_append,one_setCell hc];simp [sumR])
  (fun acc W hI=>by rw [hI.2.cell (p:=⟨2,0,none⟩) (lt_of_cell hE.eText)];exact hE.eText)
  ⟨heap_alloc_new w _,(Below.refl _ _).alloc (Nat.le_refl _) _⟩
 have H:=Lib.hid hEach;clear hEach;go_enter Tryz.func261,Tryz.ntmps261;go_wp2_with fail;refine H.out.mono ?_;intro e w1 hend
 cases hr:(runsL (bl s)).2 with
 |none=>
  unfold EachEnd at hend;rw [hr] at hend;obtain ⟨rfl,hI1,hI2⟩:=hend;have hc:w1.cell? ⟨w.heap.size,0,none⟩=some (.int .i64 (sumR (runsL (bl s)).1:Nat)):=by simp [World.cell?,hI1]
  have HR:=Lib.hid hr;clear hr H;go_wp2_with fail;go_ret2;rw [HR.out,sizeR_none HR.out];exact ⟨_,rfl,IsErr.nil _ _,hI2⟩
 |some p=>
  unfold EachEnd at hend;rw [hr] at hend;obtain ⟨W,⟨hI1,hI2⟩,rfl,rfl⟩:=hend;have hb:Below w.heap.size w (W.alloc (.cells #[.int .i64 p,sentV E 0] 74)):=hI2.alloc hI2.size _;have hV:IsErr E (W.alloc (.cells #[.int .i64 p,sentV E 0] 74)) (.iface 70 (.pointer (some ⟨W.heap.size,0,none⟩))) (Er.fault p 1):=
   IsErr.fault E _ 0 (by decide) p W.heap.size (by rw [World.cell?_alloc_at _ _ _ _ rfl];rfl) (by rw [World.cell?_alloc_at _ _ _ _ rfl];rfl)
  have HR:=Lib.hid hr;clear hr H;go_wp2_with fail;go_ret2;rw [HR.out,sizeR_some HR.out];exact ⟨_,rfl,hV,hb⟩
theorem open1_any (n:Nat) (c:UInt8) (B b:Nat) (acc:List UInt8) (w:World) (hn:n<1000000000) (hlen:acc.length+n≤140737488355328) (hB:IsB B b (Lib.byteCells acc) w) (hBw:B≤w.heap.size):
  Calls Tryz.prog 263 #[.int .i64 n,.int .u8 c.toNat,.pointer (some ⟨b,0,none⟩)] w fun e w'=>e=.returned (.tuple #[])∧IsB B b (Lib.byteCells (acc++List.replicate n c)) w'∧Below B w w':=by
 go_enter Tryz.func263,Tryz.ntmps263;go_wp2_with fail;go_loopw [6] (fun i wr=>∃j:Nat,j≤n∧i=.int .i64 j∧IsB B b (Lib.byteCells (acc++List.replicate j c)) wr∧Below B w wr) (fun i _=>n- (intOf i).toNat)
 case atStart=>exact ⟨0,Nat.zero_le _,rfl,by simpa using hB,Below.refl _ _⟩
 case round=>
  obtain ⟨j,hj,rfl,hBj,hb⟩:=hrel;by_cases hlt:j<n
  ·go_wp2_with fail;refine (writeByte_any B b _ c.toNat _ hBj (by rw [Lib.byteCells_length,List.length_append,List.length_replicate];omega) (by have:=hb.size;omega)).mono ?_;rintro e w2 ⟨rfl,hB2,hb2⟩;have hB3:IsB B b (Lib.byteCells (acc++List.replicate (j+1) c)) w2:=by
    rw [List.replicate_succ',←List.append_assoc,byteCells_append];exact .inr hB2
   have hb3:=hb.trans hb2;clear hB2 hb2 hBj hb;go_wp2_with fail;go_roundw
   case rel=>exact ⟨j+1,by omega,by go_num,hB3,hb3⟩
   case measure=>simp [intOf];omega
  ·obtain rfl:j=n:=by omega
   go_wp2_with fail
   go_end0
   exact ⟨rfl,hBj,hb⟩
def OpenInv (w:World) (acc:List (Nat×UInt8)) (W:World):Prop:=
 IsB w.heap.size w.heap.size (Lib.byteCells (openR acc)) W∧Below w.heap.size w W
theorem open_any {E:Nat→Addr} (s:ByteArray) (most:Int) (w:World) (hs:s.size≤1073741824) (hm:most≤1099511627776) (hE:Env E w):
  Calls Tryz.prog 258 #[.string s,.int .i64 most] w fun e w'=>∃t v,e=.returned (.tuple #[.string t,v])∧Hid (bl t=openT (runsL (bl s)) most)∧IsErr E w' v (openE (runsL (bl s)) most)∧Below w.heap.size w w':=by
 have eg:∀args w,(callFunc 263 args).run Tryz.prog w=.ok (.enter 263 args) w:=enters_of Tryz.func263 (by kernel_rfl) rfl;have EG:=Lib.hid eg;clear eg;go_enter Tryz.func258,Tryz.ntmps258;go_wp2_with fail;refine (size_any s w hs hE).mono ?_;rintro e w1 ⟨v,rfl,hv,hb1⟩
 cases hr:(runsL (bl s)).2 with
 |some p=>
  have hv':=hv;rw [hr] at hv';obtain ⟨b,_,hvb,_,_⟩:=hv'.fault_inv;subst hvb;have HT:=Lib.hid (open_some hr most);have HV:IsErr E w1 _ (Er.fault p 1):=hv';clear hv hv' hr;go_wp2_with fail;go_ret2;rw [HT.out.1,HT.out.2];exact ⟨⟨#[]⟩,_,rfl,rfl,HV,hb1⟩
 |none=>
  rw [hr] at hv;have hvn:=hv.nil_inv;subst hvn;have hsz:=sizeR_none hr;rw [hsz];have hE1:=hE.ext hb1;clear hv hsz;by_cases hmm:most<(sumR (runsL (bl s)).1:Int)
  ·have HT:=Lib.hid (open_much hr hmm);have e7:=hE1.eFull;clear hr;go_wp2_with fail;go_quiet (fail);go_wp2_with fail;go_ret2;rw [HT.out.1,HT.out.2];exact ⟨⟨#[]⟩,_,rfl,rfl,IsErr.base E _ 7 (by decide),hb1.trans (below_drewN _ _ _)⟩
  ·have HT:=Lib.hid (open_fine hr hmm);have hEach:=each_any (E:=E) s (w1.alloc (.cells #[.pointer none,.slice none 0 0] 118)) hs 263 #[.pointer (some ⟨w1.heap.size,0,none⟩)] (OpenInv w1) EG.out
    (fun acc n c W hI hn hrest=>by
     obtain ⟨rest,hrr⟩:=hrest;obtain ⟨hB,hb⟩:=hI;refine (open1_any n c _ _ _ W hn ?_ hB hb.size).mono ?_
     ·rw [openR_length];rw [←hrr,sumR_append,sumR_cons] at hmm;simp only at hmm;omega
     ·rintro e W' ⟨rfl,hB',hb'⟩;refine ⟨rfl,?_,hb.trans hb'⟩;rw [openR_append];simpa [openR] using hB')
    (fun acc W hI=>by rw [hI.2.cell (p:=⟨2,0,none⟩) (lt_of_cell hE1.eText)];exact hE1.eText)
    ⟨isB_new w1 _ (Nat.le_refl _),(Below.refl _ _).alloc (Nat.le_refl _) _⟩
   have H:=Lib.hid hEach;have HR:=Lib.hid hr;clear hEach hr;go_wp2_with fail;refine H.out.mono ?_;intro e w2 hend;unfold EachEnd at hend;rw [HR.out] at hend;obtain ⟨rfl,hB2,hb2⟩:=hend;clear H;go_wp2_with fail;refine (Tryz.Builder_String_any _ _ _ _ hB2 hb2.size).mono ?_;rintro e w3 ⟨rfl,hb3⟩;have hfin:Below w.heap.size w w3:=hb1.trans ((hb2.trans hb3).mono hb1.size);clear hB2 hb2 hb3;go_wp2_with fail;go_ret2;rw [HT.out.1,HT.out.2];exact ⟨_,_,rfl,rfl,IsErr.nil _ _,hfin⟩
end Go.Proofs.YtaabgmbjmfjdjaaGreatDoor
