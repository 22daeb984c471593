import Derived.Test.YtaabgmbjmfjdjaaGreatDoorProg
import Derived.WalkKit
import Derived.Lib.AppendStr
import Derived.Lib.ConvBytes
import Derived.Lib.Builder
import Derived.Lib.Hide
import Derived.Test.YtaabgmbjmfjdjaaGreatDoorJMirrorPlainEtc
import Derived.Test.YtaabgmbjmfjdjaaGreatDoorJSummed
import Derived.Deep.RegionLaw
import Derived.Deep.Draws
import Derived.Deep.QuietTactic
import Derived.BigQuiet
namespace Go.Proofs.YtaabgmbjmfjdjaaGreatDoor
open Go Go.RowKit
set_option maxHeartbeats 1000000
set_option maxRecDepth 100000
def Buf (w:World) (B:Nat) (v:Value) (bs:List Value):Prop:=
 (v=.slice none 0 0∧bs=[])∨
  ∃g cap cur lo hi,v=.slice (some ⟨g,0,none⟩) bs.length cap∧B≤g∧w.heap[g]? =some (.cells cur 5 (lo,hi))∧(lo=hi∨cur.size≤lo)∧bs.length≤cap∧cap≤maxLen∧cap≤cur.size∧cur.toList.take bs.length=bs
theorem Buf.nil (w:World) (B:Nat):Buf w B (.slice none 0 0) []:= .inl ⟨rfl,rfl⟩
theorem Buf.lt {w:World} {B:Nat} {v:Value} {bs:List Value} (h:Buf w B v bs):∀g,v.ownBlock=some g→B≤g∧g<w.heap.size:=by
 rcases h with ⟨rfl,_⟩|⟨g,cap,cur,lo,hi,rfl,h1,h2,_⟩
 ·intro g hg;cases hg
 ·intro k hk;simp only [Value.ownBlock,Option.some.injEq] at hk;subst hk;exact ⟨h1,(Array.getElem?_eq_some_iff.1 h2).1⟩
theorem Buf.kept {w w':World} {B:Nat} {v:Value} {bs:List Value} {row:Option Nat} (h:Buf w B v bs) (hg:w.grownBy w' row) (hr:row=none∨v.ownBlock≠row):Buf w' B v bs:=by
 rcases h with ⟨rfl,h0⟩|⟨g,cap,cur,lo,hi,rfl,h1,h2,h3⟩
 ·exact .inl ⟨rfl,h0⟩
 ·have hlt:=(Array.getElem?_eq_some_iff.1 h2).1;refine .inr ⟨g,cap,cur,lo,hi,rfl,h1,?_,h3⟩;rw [hg.block g hlt ?_];exact h2;rcases hr with rfl|hr
  ·simp
  ·simpa [Value.ownBlock] using hr
theorem Buf.below {w w':World} {B:Nat} {v:Value} {bs:List Value} (h:Buf w B v bs) (hb:Below w.heap.size w w'):Buf w' B v bs:=
 h.kept (row:=none) ⟨hb.os,hb.tape,hb.output,hb.size,fun k hk _=>hb.block k hk⟩ (.inl rfl)
section
variable {P:Program}
theorem storeCells_marked (g o:Nat) (t:TypeId) (lo hi:Nat):∀(vs:List Value) (i:Nat) (cur:Array Value) (w:World),w.heap[g]? =some (.cells cur t (lo,hi))→(lo=hi∨cur.size≤lo)→o+i+vs.length≤cur.size→(∀v∈vs,v.oneCell'=true)→
  (storeCells ⟨g,o,none⟩ vs i).run P w=.ok () (w.setRow g (cur.toList.take (o+i)++vs++cur.toList.drop (o+i+vs.length)).toArray)
 | [],i,cur,w,hg,_,_,_=>by
  simp only [storeCells,List.append_nil,List.length_nil,Nat.add_zero,List.take_append_drop,Array.toArray_toList];rw [setRow_self w g cur t (lo,hi) hg];rfl
 |v::rest,i,cur,w,hg,hm,hl,h1=>by
  have hi':o+i<cur.size:=by simp at hl;omega
  have hadd:(⟨g,o,none⟩:Addr).add i=⟨g,o+i,none⟩:=by unfold Addr.add;split<;>simp_all
  have hcell:w.cell? ⟨g,o+i,none⟩=some cur[o+i]:=by simp [World.cell?,hg,hi']
  have hfro:w.frozen? ⟨g,o+i,none⟩=false:=by
   have:decide (lo≤o+i)=false∨decide (o+i<hi)=false:=by
    rcases hm with h|h
    ·by_cases h2:lo≤o+i
     ·exact .inr (decide_eq_false (by omega))
     ·exact .inl (decide_eq_false h2)
    ·exact .inl (decide_eq_false (by omega))
   simp only [World.frozen?,hg];rcases this with h|h<;>simp [h]
  have hst:(store ((⟨g,o,none⟩:Addr).add i) v).run P w=.ok () (w.setRow g (cur.setIfInBounds (o+i) v)):=by
   rw [hadd,run_store P w _ v _ (h1 v (by simp)),hcell];simp [hfro,setCell_eq_setRow w g (o+i) cur t (lo,hi) v hg]
  have ih:=storeCells_marked g o t lo hi rest (i+1) (cur.setIfInBounds (o+i) v) (w.setRow g (cur.setIfInBounds (o+i) v)) (setRow_heap w g cur _ t _ hg) (by simpa using hm) (by simp at hl⊢;omega) (fun x hx=>h1 x (by simp [hx]));simp only [storeCells,Sem.run_bind,hst,Result.andThen_ok,ih,setRow_setRow];congr 3;have e:=list_seg_step cur.toList (o+i) v rest (by simp at hl⊢;omega);simpa [Array.toList_setIfInBounds,Nat.add_assoc] using e
end
section
variable (w:World)
theorem run_append_buf (B:Nat) (ty:TypeId) (i:TypeInfo) (hi:Tryz.prog.info? 5=some i) (hz:i.zero=some (.int .u8 0)) (hsize:i.size=1) (hby:i.bytes=1)
  (v:Value) (xs:List Value) (hown:Buf w B v xs) (s:ByteArray) (hbytes:xs.length+s.size≤140737488355328) (hB:B≤w.heap.size):
  ∃v' w',(Builtin.append_ #[77,9] ty #[v,.string s]).run Tryz.prog w=.ok v' w'∧Buf w' B v' (xs++Lib.strCells s)∧w.grownBy w' v.ownBlock:=by
 have ht:=Tryz.underlying77;have hu:=Tryz.underlying9;have h63:xs.length+s.size≤maxLen:=by unfold maxLen;omega
 have hlen:(xs++Lib.strCells s).length=xs.length+s.size:=by rw [List.length_append,Lib.strCells_length]
 have grown:∀(old:Nat),old<xs.length+s.size→∀(row:Option Nat),
   Buf (w.drew.alloc (.cells (xs.toArray++(Lib.strCells s).toArray++Builtin.zeroCells (Value.int .u8 0).cells (grownCap w (xs.length+s.size) old 5- (xs.length+s.size))) 5)) B
    (.slice (some ⟨w.heap.size,0,none⟩) (xs.length+s.size) (grownCap w (xs.length+s.size) old 5)) (xs++Lib.strCells s)∧
   w.grownBy (w.drew.alloc (.cells (xs.toArray++(Lib.strCells s).toArray++Builtin.zeroCells (Value.int .u8 0).cells (grownCap w (xs.length+s.size) old 5- (xs.length+s.size))) 5)) row:=by
  intro old ho row;have hge:=grownCap_ge w (xs.length+s.size) old 5;have hcm:grownCap w (xs.length+s.size) old 5≤maxLen:=grownCap_le_maxLen w (xs.length+s.size) old 5 h63;refine ⟨.inr ⟨w.heap.size,_,_,0,0,by rw [hlen],hB,heap_alloc_new w.drew _,.inl rfl,by rw [hlen];exact hge,hcm,?_,?_⟩,⟨rfl,rfl,rfl,by simp,fun k hk _=>Lib.alloc_old w.drew _ k hk⟩⟩
  ·have hz1:(Value.int IntKind.u8 0).cells.size=1:=rfl;simp only [Array.size_append,List.size_toArray,size_zeroCells,hz1,Lib.strCells_length];omega
  ·simp only [Array.toList_append,List.append_assoc];rw [←List.append_assoc];exact List.take_left
 rcases hown with ⟨rfl,rfl⟩|⟨g,cap,cur,lo,hi2,rfl,hbg,hg,hm,hnc,hcm,hcs,htake⟩
 ·by_cases hm:s.size=0
  ·have hn:Lib.strCells s=[]:=List.eq_nil_of_length_eq_zero (by rw [Lib.strCells_length];exact hm);refine ⟨.slice none 0 0,w,?_,by rw [hn];exact Buf.nil w B,⟨rfl,rfl,rfl,Nat.le_refl _,fun _ _ _=>rfl⟩⟩;have hf:=Lib.run_firstCells_string (P:=Tryz.prog) w 1 s;rw [hm] at hf;simp [Builtin.append_,run_underlying ht,run_underlying hu,sizeOf,typeInfo,hi,hsize,Builtin.lenOf,hm,hf]
  ·have hr:=run_append_nil_string (P:=Tryz.prog) w 77 9 ty 5 i (.int .u8 0) ht hu hi hz s (by omega) (by simp at hbytes;omega) (by rw [hby];simp at hbytes;omega);have hgr:=grown 0 (by simp;omega) (Value.ownBlock (.slice none 0 0));simp only [List.length_nil,Nat.zero_add,List.nil_append,Array.empty_append] at hgr⊢;have e1:(s.data.map fun b=>Value.int .u8 b.toNat)=(Lib.strCells s).toArray:=by
    apply Array.ext';simp [Lib.strCells]
   rw [e1] at hr;exact ⟨_,_,hr,hgr.1,hgr.2⟩
 ·by_cases hroom:xs.length+s.size≤cap
  ·have hf:=Lib.run_firstCells_string (P:=Tryz.prog) w 1 s;have hst:=storeCells_marked (P:=Tryz.prog) g xs.length 5 lo hi2 (Lib.strCells s) 0 cur w hg hm (by rw [Lib.strCells_length];omega) (Lib.strCells_oneCell s);simp only [Nat.add_zero,Lib.strCells_length] at hst;have hr:(Builtin.append_ #[77,9] ty #[.slice (some ⟨g,0,none⟩) xs.length cap,.string s]).run Tryz.prog w=
     .ok (.slice (some ⟨g,0,none⟩) (xs.length+s.size) cap) (w.setRow g (cur.toList.take xs.length++Lib.strCells s++cur.toList.drop (xs.length+s.size)).toArray):=by
    simp [Builtin.append_,run_underlying ht,run_underlying hu,sizeOf,typeInfo,hi,hsize,Builtin.lenOf,hroom,hf,Addr.add_lit,hst]
   refine ⟨_,_,hr,.inr ⟨g,cap,_,lo,hi2,by rw [hlen],hbg,setRow_heap w g cur _ 5 _ hg,?_,by rw [hlen];exact hroom,hcm,?_,?_⟩,⟨rfl,rfl,rfl,by simp,fun k _ hk=>setRow_other w g k _ (fun e=>hk (by simp [Value.ownBlock,e]))⟩⟩
   ·rcases hm with h|h
    ·exact .inl h
    ·refine .inr ?_;simp only [List.size_toArray,List.length_append,List.length_take,List.length_drop,Array.length_toList,Lib.strCells_length];omega
   ·simp only [List.size_toArray,List.length_append,List.length_take,List.length_drop,Array.length_toList,Lib.strCells_length];omega
   ·rw [htake];exact List.take_left
  ·have holds:∀j u,xs[j]? =some u→w.cell? ((⟨g,0,none⟩:Addr).add j)=some u:=by
    intro j u hj;have hjl:j<xs.length:=(List.getElem?_eq_some_iff.1 hj).1;rw [Addr.add_lit,Lib.cell_of_heap hg,Nat.zero_add,←Array.getElem?_toList];rw [←htake,List.getElem?_take,if_pos (by omega)] at hj;exact hj
   have hr:=Lib.run_append_grow_string (P:=Tryz.prog) w 77 9 ty 5 i (.int .u8 0) ht hu hi hz ⟨g,0,none⟩ xs.length cap xs (by rw [hsize];simp) holds s (by omega) (by omega) (by rw [hby];exact growslice_fits (by omega) (by omega));have hgr:=grown cap (by omega) (Value.ownBlock (.slice (some ⟨g,0,none⟩) xs.length cap));exact ⟨_,_,hr,hgr.1,hgr.2⟩
theorem wpList_append_buf {ops:Array Oper} {rest:List Oper} {o:Oper} {a:Act} {Q:Exit→Act→World→Prop} (hgd:o.guard=none) (sl x:Operand)
  (ho:o.op=.call {callee:= .builtin .append,args:=#[sl,x],argTypes:=#[77,9]})
  (B:Nat) (i:TypeInfo) (hi:Tryz.prog.info? 5=some i) (hz:i.zero=some (.int .u8 0)) (hsize:i.size=1) (hby:i.bytes=1)
  (v:Value) (xs:List Value) (hs:a.eval sl=v) (hown:Buf w B v xs) (s:ByteArray) (hx:a.eval x=.string s)
  (hbytes:xs.length+s.size≤140737488355328) (hbase:B≤w.heap.size)
  (h:∀v' w',Buf w' B v' (xs++Lib.strCells s)→w.grownBy w' v.ownBlock→wpList Tryz.prog ops Q rest (a.put o.dst v') w'):wpList Tryz.prog ops Q (o::rest) a w:=by
 refine wpList_plain hgd fun K hK=>?_
 obtain ⟨v',w',hr,h2,h3⟩:=run_append_buf w B o.type i hi hz hsize hby v xs hown s hbytes hbase;unfold Oper.wp execOp;simp only [ho,resolve,invoke,builtin,Sem.run_bind,Sem.run_pure,Result.andThen_ok,List.map_toArray,List.map_cons,List.map_nil,hs,hx,hr];exact hK _ _ (h v' w' h2 h3)
end
theorem Tryz.infoByteT:(Tryz.prog.info? 5).map (fun i=>(i.zero,i.size,i.bytes))=some (some (.int .u8 0),1,1):=by kernel_rfl
abbrev cellsL (l:List UInt8):List Value:=Lib.byteCells l
def TapeRow (o:Obj):Prop:=(∃c fz,o=.cells c 5 fz)∨(∃c fz,o=.cells c 79 fz)
structure Onto (B:Nat) (w w':World):Prop where
 below:Below B w w'
 keep:∀(k:Nat) (o:Obj),w.heap[k]? =some o→¬TapeRow o→w'.heap[k]? =some o
theorem Onto.refl (B:Nat) (w:World):Onto B w w:=⟨Below.refl _ _,fun _ _ h _=>h⟩
theorem Onto.trans {B:Nat} {a b c:World} (h:Onto B a b) (k:Onto B b c):Onto B a c:=⟨h.below.trans k.below,fun i o hi ho=>k.keep i o (h.keep i o hi ho) ho⟩
theorem Onto.of {B:Nat} {w w':World} (h:Below w.heap.size w w') (hB:B≤w.heap.size):Onto B w w':=⟨h.mono hB,fun k o hk _=>by rw [h.block k (Array.getElem?_eq_some_iff.1 hk).1];exact hk⟩
theorem Onto.owns {B base:Nat} {w w':World} {e:TypeId} {size n:Nat} {v:Value} {xs:List Value} (h:Onto B w w') (hw:w.ownsRow base e size v n xs) (h1:e≠5) (h2:e≠79):w'.ownsRow base e size v n xs:=by
 refine ⟨hw.1,?_⟩;rcases hw.2 with h0|⟨g,cap,cur,hv,hb,hg,hr⟩
 ·exact .inl h0
 ·refine .inr ⟨g,cap,cur,hv,hb,h.keep g _ hg ?_,hr⟩;rintro (⟨c,fz,he⟩|⟨c,fz,he⟩)
  ·injection he with _ h3 _;exact h1 h3
  ·injection he with _ h3 _;exact h2 h3
theorem Buf.shape {w:World} {B:Nat} {v:Value} {bs:List Value} (h:Buf w B v bs):∃ao n cap,v=.slice ao n cap:=by
 rcases h with ⟨rfl,_⟩|⟨g,cap,cur,lo,hi,rfl,_⟩
 ·exact ⟨_,_,_,rfl⟩
 ·exact ⟨_,_,_,rfl⟩
def DiskIs (w:World) (B b:Nat) (bs:List UInt8) (off:Bool) (cut:Int):Prop:=
 B≤b∧∃v,w.heap[b]? =some (.cells #[v,.bool off,.int .i64 cut] 79 (0,0))∧Buf w B v (cellsL bs)
theorem DiskIs.below {w w':World} {B b:Nat} {bs:List UInt8} {off:Bool} {cut:Int} (h:DiskIs w B b bs off cut) (hb:Below w.heap.size w w'):DiskIs w' B b bs off cut:=by
 obtain ⟨h1,v,h2,h3⟩:=h;exact ⟨h1,v,by rw [hb.block b (Array.getElem?_eq_some_iff.1 h2).1];exact h2,h3.below hb⟩
theorem DiskIs.lt {w:World} {B b:Nat} {bs:List UInt8} {off:Bool} {cut:Int} (h:DiskIs w B b bs off cut):b<w.heap.size:=by
 obtain ⟨_,v,h2,_⟩:=h;exact (Array.getElem?_eq_some_iff.1 h2).1
theorem Buf.ne {w:World} {B b:Nat} {v:Value} {bs:List Value} {cs:Array Value} {fz:Nat×Nat} (h:Buf w B v bs) (hb:w.heap[b]? =some (.cells cs 79 fz)):v.ownBlock≠some b:=by
 rcases h with ⟨rfl,_⟩|⟨g,cap,cur,lo,hi,rfl,_,hg,_⟩
 ·simp [Value.ownBlock]
 ·intro e;simp only [Value.ownBlock,Option.some.injEq] at e;subst e;rw [hg] at hb;injection hb with hb
  injection hb with _ h3 _
  exact absurd h3 (by decide)
theorem disk_put {w:World} {B b:Nat} {cs:Array Value} (hB:B≤b) (hb:w.heap[b]? =some (.cells cs 79 (0,0))) (j:Nat) (x:Value):
  (w.setCell ⟨b,j,none⟩ x).heap[b]? =some (.cells (cs.setIfInBounds j x) 79 (0,0))∧Onto B w (w.setCell ⟨b,j,none⟩ x)∧(∀v bs,Buf w B v bs→Buf (w.setCell ⟨b,j,none⟩ x) B v bs):=by
 refine ⟨?_,⟨(Below.refl B w).setCell (p:=⟨b,j,none⟩) hB _,fun k o hk ho=>?_⟩,fun v bs h=>?_⟩
 ·simp [World.setCell,Array.getElem?_modify,hb]
 ·rw [Below.heap_setCell _ _ _ _ (fun e=>ho ?_)];· exact hk
  subst e;exact .inr ⟨_,_,by rw [hb] at hk;injection hk with hk;exact hk.symm⟩
 ·exact h.kept (row:=some b) ⟨rfl,rfl,rfl,by simp [World.setCell],fun k _ hk=>Below.heap_setCell _ _ _ _ (fun e=>hk (by simp [e]))⟩ (.inr (h.ne hb))
theorem onto_grown {w w':World} {B:Nat} {v:Value} {bs:List Value} (h:Buf w B v bs) (hg:w.grownBy w' v.ownBlock) (hB:B≤w.heap.size):Onto B w w':=by
 refine ⟨(Below.refl B w).grown hg hB (fun k hk=>(h.lt k hk).1),fun k o hk ho=>?_⟩;rw [hg.block k (Array.getElem?_eq_some_iff.1 hk).1 (fun e=>ho ?_)];· exact hk
 rcases h with ⟨rfl,_⟩|⟨g,cap,cur,lo,hi,rfl,_,hgg,_⟩
 ·simp [Value.ownBlock] at e
 ·simp only [Value.ownBlock,Option.some.injEq] at e;subst e;rw [hgg] at hk;injection hk with hk
  exact .inl ⟨_,_,hk.symm⟩
theorem byteCells_length (l:List UInt8):(Lib.byteCells l).length=l.length:=by unfold Lib.byteCells;simp
theorem buf_bytesWorld (w:World) (s:ByteArray) (hs:s.size≤maxLen):Buf (Lib.bytesWorld w 5 s) w.heap.size (.slice (some ⟨w.heap.size,0,none⟩) s.size (grownCap w s.size 0 5)) (cellsL (bl s)):=by
 have hl:(cellsL (bl s)).length=s.size:=by rw [byteCells_length,bl_length]
 have hge:=grownCap_ge w s.size 0 5;refine .inr ⟨w.heap.size,_,_,_,_,by rw [hl],Nat.le_refl _,Lib.bytesWorld_at_new w _ s,.inr (Nat.le_refl _),by rw [hl];exact hge,grownCap_le_maxLen w _ _ _ hs,?_,?_⟩
 ·show _≤(Lib.bytesCells w 5 s).size;simp only [Lib.bytesCells,Array.size_append,Array.size_map,Array.size_replicate];show _≤s.size+_;omega
 ·rw [hl];simp only [Lib.bytesCells,Array.toList_append,Array.toList_map];rw [List.take_left' (by simp)];rfl
theorem newDisk_any (s:ByteArray) (w:World) (hs:s.size≤1048576):
  Calls Tryz.prog 20 #[.string s] w fun e w'=>∃b,e=.returned (.tuple #[.pointer (some ⟨b,0,none⟩),.nilIface])∧DiskIs w' w.heap.size b (bl s) false (-1)∧Below w.heap.size w w':=by
 go_enter Tryz.func20,Tryz.ntmps20;go_wp2_with fail;rw [Lib.run_convert_string_bytes _ _ _ 5 s Tryz.underlying9 Tryz.underlying77 Tryz.underlying5];simp only [Result.andThen];rw [Oper.upon_value];have hB:=buf_bytesWorld w s (by unfold maxLen;omega);have hb:=Lib.bytesWorld_below w 5 s;generalize Lib.bytesWorld w 5 s=w1 at hB hb;generalize grownCap w s.size 0 5=cap at hB;go_wp2_with fail;go_ret2;refine ⟨_,rfl,⟨hb.size,_,heap_alloc_new _ _,?_⟩,hb.alloc hb.size _⟩;exact hB.below ((Below.refl _ _).alloc (Nat.le_refl _) _)
theorem diskOn_any (B b:Nat) (bs:List UInt8) (off:Bool) (c:Int) (w:World) (h:DiskIs w B b bs off c):
  Calls Tryz.prog 173 #[.pointer (some ⟨b,0,none⟩)] w fun e w'=>e=.returned (.tuple #[])∧DiskIs w' B b bs false (-1)∧Onto B w w':=by
 obtain ⟨hB,v,hb,hbuf⟩:=h;have c1:w.cell? ⟨b,1,none⟩=some (.bool off):=by rw [Lib.cell_of_heap hb];rfl
 have f1:w.frozen? ⟨b,1,none⟩=false:=Lib.frozen_of_heap hb 1;obtain ⟨p1,p2,p3⟩:=disk_put hB hb 1 (.bool false);have c2:(w.setCell ⟨b,1,none⟩ (.bool false)).cell? ⟨b,2,none⟩=some (.int .i64 c):=by rw [Lib.cell_of_heap p1];rfl
 have f2:(w.setCell ⟨b,1,none⟩ (.bool false)).frozen? ⟨b,2,none⟩=false:=Lib.frozen_of_heap p1 2;obtain ⟨q1,q2,q3⟩:=disk_put hB p1 2 (.int .i64 (-1));have d2:w.cell? ⟨b,2,none⟩=some (.int .i64 c):=by rw [Lib.cell_of_heap hb];rfl
 have e2:w.frozen? ⟨b,2,none⟩=false:=Lib.frozen_of_heap hb 2;go_enter Tryz.func173,Tryz.ntmps173;go_wp2_with fail
 go_end0
 exact ⟨rfl,⟨hB,v,q1,q3 _ _ (p3 _ _ hbuf)⟩,p2.trans q2⟩
theorem convert_buf {w:World} {B:Nat} {v:Value} {l:List UInt8} (h:Buf w B v (cellsL l)):(convert 77 9 v).run Tryz.prog w=.ok (.string ⟨l.toArray⟩) w:=by
 rcases h with ⟨rfl,h0⟩|⟨g,cap,cur,lo,hi,rfl,h1,h2,h3,h4,h5,h6,h7⟩
 ·have:l=[]:=by
   have:=congrArg List.length h0;rw [byteCells_length] at this;exact List.eq_nil_of_length_eq_zero this
  subst this;exact run_convert_bytes_nil w _ 5 Tryz.underlying77 Tryz.underlying5 _ _ _ Tryz.underlying9
 ·rw [byteCells_length] at h7⊢;refine run_convert_bytes_back w _ _ 5 ⟨g,0,none⟩ cap l Tryz.underlying77 Tryz.underlying5 Tryz.underlying9 fun j hj=>?_
  rw [Addr.add_lit,Lib.cell_of_heap h2,Nat.zero_add,←Array.getElem?_toList];have:(cur.toList.take l.length)[j]? =(cellsL l)[j]?:=by rw [h7]
  rw [List.getElem?_take,if_pos hj] at this;rw [this];simp [Lib.byteCells,List.getElem?_map,List.getElem?_eq_getElem hj]
theorem step_append_buf {ops:Array Oper} {o:Oper} {a:Act} {w:World} {K:Act→World→Prop} {Q:Exit→Act→World→Prop} {E:Prop}
  (hg:o.guard=none) (sl x:Operand) (hop:o.op=Op.call {callee:=Callee.builtin Builtin.append,args:=#[sl,x],argTypes:=#[77,9]})
  (B:Nat) (i:TypeInfo) (hi:Tryz.prog.info? 5=some i) (hz:i.zero=some (.int .u8 0)) (hsize:i.size=1) (hby:i.bytes=1)
  (v:Value) (xs:List Value) (hs:a.eval sl=v) (hown:Buf w B v xs) (s:ByteArray) (hx:a.eval x=.string s)
  (hbytes:xs.length+s.size≤140737488355328) (hbase:B≤w.heap.size)
  (hK:∀v' w',Buf w' B v' (xs++Lib.strCells s)→w.grownBy w' v.ownBlock→K (a.put o.dst v') w'):
  if Region.wanted o (yielded ops a.tmps)=true then Oper.wp Tryz.prog o a w K Q else E:=by
 have hw:Region.wanted o (yielded ops a.tmps)=true:=by simp [Region.wanted,hg]
 rw [if_pos hw];obtain ⟨v',w',hr,h2,h3⟩:=run_append_buf w B o.type i hi hz hsize hby v xs hown s hbytes hbase;unfold Oper.wp;simp [execOp,hop,resolve,invoke,builtin,hs,hx,hr,Result.andThen];exact hK v' w' h2 h3
theorem diskWrite_any (B b:Nat) (bs:List UInt8) (off:Bool) (c:Int) (s:ByteArray) (v0:Value) (w:World) (h:DiskIs w B b bs off c) (hlen:bs.length+s.size≤100000000) (hc: -1≤c∧c≤9223372036854775807) (hBw:B≤w.heap.size)
  (hv:w.cell? ⟨12,0,none⟩=some v0) (hg:12<B):
  Calls Tryz.prog 68 #[.pointer (some ⟨b,0,none⟩),.string s] w fun e w'=>
   ∃bs' off' c' ok,Hid (WroteL bs off c (bl s)=(bs',off',c',ok))∧e=.returned (if ok=true then .nilIface else v0)∧DiskIs w' B b bs' off' c'∧Onto B w w':=by
 obtain ⟨i0,hi,hz0,hz1,hz2⟩:=info_parts Tryz.infoByteT;obtain ⟨hB,v,hb,hbuf⟩:=h;have hsl:(bl s).length=s.size:=bl_length s;have hbl:(cellsL bs).length=bs.length:=byteCells_length bs;have c0:w.cell? ⟨b,0,none⟩=some v:=by rw [Lib.cell_of_heap hb];rfl
 have c1:w.cell? ⟨b,1,none⟩=some (.bool off):=by rw [Lib.cell_of_heap hb];rfl
 have c2:w.cell? ⟨b,2,none⟩=some (.int .i64 c):=by rw [Lib.cell_of_heap hb];rfl
 have f2:w.frozen? ⟨b,2,none⟩=false:=Lib.frozen_of_heap hb 2;have hbw:b<w.heap.size:=(Array.getElem?_eq_some_iff.1 hb).1
 cases off with
 |true=>
  go_enter Tryz.func68,Tryz.ntmps68;go_wp2_with fail;go_ret;exact ⟨bs,true,c,false,by show _=_;unfold WroteL;simp,rfl,⟨hB,v,hb,hbuf⟩,Onto.refl _ _⟩
 |false=>
  by_cases h1:0≤c
  ·obtain ⟨k,rfl⟩:∃k:Nat,c=k:=⟨c.toNat,by omega⟩;by_cases h2:k<s.size
   ·have hW:Hid (WroteL bs false (k:Int) (bl s)=(bs++(bl s).take k,true,(k:Int),false)):=by
     show _=_;unfold WroteL;rw [if_neg (by simp),if_pos ⟨h1,by omega⟩];simp
    have hx:(s.extract 0 k).size=k:=by simp;omega
    have hxl:bl (s.extract 0 k)=(bl s).take k:=by
     rw [bl_extract];simp
    have hks:k≤s.size:=by omega
    obtain ⟨ao,n,cap,rfl⟩:=hbuf.shape;go_enter Tryz.func68,Tryz.ntmps68;go_wp2_with fail;go_region_law (refine step_append_buf rfl _ _ rfl B i0 hi hz0 hz1 hz2 (.slice ao n cap) (cellsL bs) rfl hbuf (s.extract 0 k) rfl (by omega) hBw ?_;intro v' w2 hbuf2 hgrow;have hb2:w2.heap[b]? =some (.cells #[.slice ao n cap,.bool false,.int .i64 (k:Int)] 79 (0,0)):=(hgrow.block b hbw (fun e=>hbuf.ne hb e.symm)).trans hb;have f0:w2.frozen? ⟨b,0,none⟩=false:=Lib.frozen_of_heap hb2 0;have d0:w2.cell? ⟨b,0,none⟩=some (.slice ao n cap):=(Lib.cell_of_heap hb2 0).trans rfl;obtain ⟨ao2,n2,cap2,rfl⟩:=hbuf2.shape;clear c0 c1 c2)
    all_goals
     have ho:Onto B w w2:=onto_grown hbuf ⟨hgrow.os,hgrow.tape,hgrow.output,hgrow.size,hgrow.block⟩ hBw;obtain ⟨q1,q2,q3⟩:=disk_put hB hb2 0 (.slice ao2 n2 cap2);have hbuf3:=q3 _ _ hbuf2;have f1:=Lib.frozen_of_heap q1 1;have d1:=Lib.cell_of_heap q1 1;obtain ⟨r1,r2,r3⟩:=disk_put hB q1 1 (.bool true);have e1:=(r2.below.cell (p:=⟨12,0,none⟩) hg).trans ((q2.below.cell (p:=⟨12,0,none⟩) hg).trans ((ho.below.cell (p:=⟨12,0,none⟩) hg).trans hv));go_wp2_with fail;go_ret;rw [strCells_bl,←byteCells_append,hxl] at hbuf3;exact ⟨_,_,_,_,hW,rfl,⟨hB,_,r1,r3 _ _ hbuf3⟩,(ho.trans q2).trans r2⟩
   ·have hW:Hid (WroteL bs false (k:Int) (bl s)=(bs++bl s,false,(k:Int)-s.size,true)):=by
     show _=_;unfold WroteL;rw [if_neg (by simp),if_neg (by omega),if_pos h1,hsl]
    obtain ⟨ao,n,cap,rfl⟩:=hbuf.shape;obtain ⟨p1,p2,p3⟩:=disk_put hB hb 2 (.int .i64 ((k:Int)-s.size));have hbuf1:=p3 _ _ hbuf;have ew:IntKind.i64.wrap ((k:Int)-s.size)=(k:Int)-s.size:=IntWalk.i64_in _ (by omega);have hBw1:B≤(w.setCell ⟨b,2,none⟩ (.int .i64 ((k:Int)-s.size))).heap.size:=Nat.le_trans hBw p2.below.size;have hbw1:b<(w.setCell ⟨b,2,none⟩ (.int .i64 ((k:Int)-s.size))).heap.size:=Nat.lt_of_lt_of_le hbw p2.below.size;have g0:(w.setCell ⟨b,2,none⟩ (.int .i64 ((k:Int)-s.size))).cell? ⟨b,0,none⟩=some (.slice ao n cap):=by rw [Lib.cell_of_heap p1];rfl
    go_enter Tryz.func68,Tryz.ntmps68;go_wp2_with (at_builtin;refine wpList_append_buf _ rfl _ _ rfl B i0 hi hz0 hz1 hz2 _ _ rfl hbuf1 s rfl (by omega) hBw1 ?_);intro v' w2 hbuf2 hgrow;have hb2:w2.heap[b]? =some (.cells #[.slice ao n cap,.bool false,.int .i64 ((k:Int)-s.size)] 79 (0,0)):=by
     rw [hgrow.block b hbw1 (fun e=>hbuf.ne hb e.symm)];exact p1
    have f0:w2.frozen? ⟨b,0,none⟩=false:=Lib.frozen_of_heap hb2 0;have d0:w2.cell? ⟨b,0,none⟩=some (.slice ao n cap):=by rw [Lib.cell_of_heap hb2];rfl
    have ho:=onto_grown hbuf1 hgrow hBw1;obtain ⟨q1,q2,q3⟩:=disk_put hB hb2 0 v';obtain ⟨ao2,n2,cap2,rfl⟩:=hbuf2.shape;go_wp2_with fail;go_ret;rw [strCells_bl,←byteCells_append] at hbuf2;exact ⟨_,_,_,_,hW,rfl,⟨hB,_,q1,q3 _ _ hbuf2⟩,(p2.trans ho).trans q2⟩
  ·obtain rfl:c= -1:=by omega
   have CA:=Lib.hid (fun (v':Value) (w':World) (x:Buf w' B v' (cellsL bs++Lib.strCells s)) (y:w.grownBy w' v.ownBlock)=>And.intro x y);have hW:Hid (WroteL bs false (-1) (bl s)=(bs++bl s,false,-1,true)):=by show _=_;unfold WroteL;simp
   obtain ⟨ao,n,cap,rfl⟩:=hbuf.shape;go_enter Tryz.func68,Tryz.ntmps68;go_wp2_with (at_builtin;refine wpList_append_buf _ rfl _ _ rfl B i0 hi hz0 hz1 hz2 _ _ rfl hbuf s rfl (by omega) hBw ?_);intro v' w2 hbuf2 hgrow;have hb2:w2.heap[b]? =some (.cells #[.slice ao n cap,.bool false,.int .i64 (-1)] 79 (0,0)):=by
    rw [hgrow.block b hbw (fun e=>hbuf.ne hb e.symm)];exact hb
   have f0:w2.frozen? ⟨b,0,none⟩=false:=Lib.frozen_of_heap hb2 0;have d0:w2.cell? ⟨b,0,none⟩=some (.slice ao n cap):=by rw [Lib.cell_of_heap hb2];rfl
   have ho:=onto_grown hbuf hgrow hBw;obtain ⟨q1,q2,q3⟩:=disk_put hB hb2 0 v';obtain ⟨ao2,n2,cap2,rfl⟩:=hbuf2.shape;go_wp2_with fail;go_ret;rw [strCells_bl,←byteCells_append] at hbuf2;exact ⟨_,_,_,_,hW,rfl,⟨hB,_,q1,q3 _ _ hbuf2⟩,ho.trans q2⟩
def agW (S:ShopS) (k x:List UInt8):Nat×ShopS:=
 if k=wRule then
  (if (rulesEr (S.rules++[((cutL 32 x).headD [],(cutL 32 x).tail)])).code≠0 then ((rulesEr (S.rules++[((cutL 32 x).headD [],(cutL 32 x).tail)])).code,S)
   else (0,{S with rules:=S.rules++[((cutL 32 x).headD [],(cutL 32 x).tail)]}))
 else if k=wWant then
  (if (readW x).1≠0 then (1,S) else ((setLk S.lock (readW x).2).1.code,{S with lock:=(setLk S.lock (readW x).2).2}))
 else if k=wUnwant then
  ((dropLk S.lock ⟨x.toArray⟩).1.code,{S with lock:=(dropLk S.lock ⟨x.toArray⟩).2})
 else if k=wHold then
  (if (readEr x).code≠0 then (1,S) else ((putH S.held (readT x)).1.code,{S with held:=(putH S.held (readT x)).2.2}))
 else if k=wDrop then
  (match numOf x 10 with
   |none=>(1,S)
   |some n=>((dropH S.held n).1,{S with held:=(dropH S.held n).2}))
 else (1,S)
theorem againS_no {S:ShopS} {r:List UInt8} (h:(Lib.cut r [32]).2.2=false):againS S r=(1,S):=by unfold againS;rw [if_pos h]
theorem againS_is {S:ShopS} {r k x:List UInt8} (h:Lib.cut r [32]=(k,x,true)):againS S r=agW S k x:=by
 unfold againS agW;rw [h];rw [if_neg (by simp)]
 all_goals (dsimp only;cases numOf x 10<;>rfl)
theorem agW_rule (S:ShopS) (x:List UInt8):agW S wRule x=if (rulesEr (S.rules++[((cutL 32 x).headD [],(cutL 32 x).tail)])).code≠0 then ((rulesEr (S.rules++[((cutL 32 x).headD [],(cutL 32 x).tail)])).code,S) else (0,{S with rules:=S.rules++[((cutL 32 x).headD [],(cutL 32 x).tail)]}):=by unfold agW;rw [if_pos rfl]
theorem agW_want (S:ShopS) (x:List UInt8):agW S wWant x=if (readW x).1≠0 then (1,S) else ((setLk S.lock (readW x).2).1.code,{S with lock:=(setLk S.lock (readW x).2).2}):=by unfold agW;rw [if_neg (by decide),if_pos rfl]
theorem agW_unwant (S:ShopS) (x:List UInt8):agW S wUnwant x=((dropLk S.lock ⟨x.toArray⟩).1.code,{S with lock:=(dropLk S.lock ⟨x.toArray⟩).2}):=by unfold agW;rw [if_neg (by decide),if_neg (by decide),if_pos rfl]
theorem agW_hold (S:ShopS) (x:List UInt8):agW S wHold x=if (readEr x).code≠0 then (1,S) else ((putH S.held (readT x)).1.code,{S with held:=(putH S.held (readT x)).2.2}):=by unfold agW;rw [if_neg (by decide),if_neg (by decide),if_neg (by decide),if_pos rfl]
theorem agW_drop (S:ShopS) (x:List UInt8):agW S wDrop x=match numOf x 10 with|none=>(1,S)|some n=>((dropH S.held n).1,{S with held:=(dropH S.held n).2}):=by unfold agW;rw [if_neg (by decide),if_neg (by decide),if_neg (by decide),if_neg (by decide),if_pos rfl]
theorem agW_other (S:ShopS) {k:List UInt8} (x:List UInt8) (h1:k≠wRule) (h2:k≠wWant) (h3:k≠wUnwant) (h4:k≠wHold) (h5:k≠wDrop):agW S k x=(1,S):=by unfold agW;rw [if_neg h1,if_neg h2,if_neg h3,if_neg h4,if_neg h5]
theorem openGo_step {i:Nat} {S:ShopS} {r:List UInt8} {l:List (List UInt8)} (h:(againS S r).1=0):openGo i S (r::l)=openGo (i+1) (againS S r).2 l:=by rw [openGo,if_neg (by omega)]
theorem openGo_bad {i:Nat} {S:ShopS} {r:List UInt8} {l:List (List UInt8)} (h:(againS S r).1≠0):openGo i S (r::l)=(⟨(againS S r).1,some (i:Int)⟩,S):=by rw [openGo,if_pos h]
end Go.Proofs.YtaabgmbjmfjdjaaGreatDoor
