import Derived.Test.YtaabgmbjmfjdjaaGreatDoorJHeldUp
import Derived.Deep.RegionWith
import Derived.Test.YtaabgmbjmfjdjaaGreatDoorJRowedEtc
import Derived.Laws.AppendOwnNone
import Derived.Test.YtaabgmbjmfjdjaaGreatDoorJPackedUpEtc
import Derived.Test.YtaabgmbjmfjdjaaGreatDoorJToldEtc
import Derived.Test.YtaabgmbjmfjdjaaGreatDoorJPathedEtc
import Derived.Test.YtaabgmbjmfjdjaaGreatDoorJSummed
namespace Go.Proofs.YtaabgmbjmfjdjaaGreatDoor
open Go Go.RowKit Go.Maps
set_option maxHeartbeats 4000000
set_option maxRecDepth 100000
theorem Tryz.infoInt:(Tryz.prog.info? 3).map (fun i=>(i.zero,i.size,i.bytes))=some (some (.int .i64 0),1,8):=by kernel_rfl
theorem treeSum_i64 (l:List FileB):I64 (treeSum l):=by
 have h:=sumL_lt (packT l);have h2:sumL (packT l)<1000000007:=h;unfold treeSum;constructor<;>omega
theorem below_size {B:Nat} {w w':World} (h:Below B w w') (hB:B≤w.heap.size):B≤w'.heap.size:=Nat.le_trans hB h.size
structure HeldMid (w:World) (B b:Nat) (h:HeldB) (T:List (Int×List FileB)) (om:Value) (mb:Nat) (f:Int→Option Value):Prop where
 hb:B≤b
 hm:B≤mb
 hlt:mb+1=b
 blk:w.heap[b]? =some (.cells #[.int .i64 h.most,om,.map (some mb)] 110 (0,0))
 order:Row encInt 1 w om (T.map (·.1))
 map:MapI w mb T.length f
 vals:∀n,HVal w B (getL T n) (f n)
theorem HeldMid.sp {w:World} {B b mb:Nat} {h:HeldB} {T:List (Int×List FileB)} {om:Value} {f:Int→Option Value} (hM:HeldMid w B b h T om mb f):mb≤b∧b<mb+2:=by have:=hM.hlt;omega
theorem HeldAt.mid {w:World} {B b mb:Nat} {h:HeldB} {ov:Value} {f:Int→Option Value} (hA:HeldAt w B b h ov mb f):HeldMid w B b h h.trees ov mb f:=
 ⟨hA.hb,hA.hm,hA.hlt,hA.blk,IOwn.row hA.order,hA.map,hA.vals⟩
theorem mid_block {w w4:World} {B b mb:Nat} {h:HeldB} {T:List (Int×List FileB)} {om:Value} {f:Int→Option Value} (hM:HeldMid w B b h T om mb f) (hb4:Below w.heap.size w w4):
  w4.heap[b]? =some (.cells #[.int .i64 h.most,om,.map (some mb)] 110 (0,0)):=by
 rw [hb4.block b (Array.getElem?_eq_some_iff.1 hM.blk).1];exact hM.blk
theorem mid_store {w w4:World} {B b mb:Nat} {h:HeldB} {T:List (Int×List FileB)} {om:Value} {f:Int→Option Value} (hM:HeldMid w B b h T om mb f) (hb4:Below w.heap.size w w4) (hB:B≤w.heap.size) (y:Value):
  (w4.setCell ⟨b,1,none⟩ y).heap[b]? =some (.cells #[.int .i64 h.most,y,.map (some mb)] 110 (0,0))∧KeepsU 2 b HeldRow B w (w4.setCell ⟨b,1,none⟩ y)∧MapI (w4.setCell ⟨b,1,none⟩ y) mb T.length f∧KeepsU 2 b HeldRow B w4 (w4.setCell ⟨b,1,none⟩ y):=by
 have blk4:=mid_block hM hb4;have K3:=held_store blk4 hM.hb (Nat.le_trans hB hb4.size) y;refine ⟨held_set blk4 y,(KeepsU.of hb4 hB).trans K3,?_,K3⟩;have m4:=hM.map.keep (hb4.block mb hM.map.lt);exact m4.keep (Below.heap_setCell _ _ _ _ (mapI_cells blk4 m4))
theorem heldAt_put {wm w5 w6 w7:World} {B b mb j:Nat} {h:HeldB} {T:List (Int×List FileB)} {om y z:Value} {f:Int→Option Value} {l:List FileB} {D:DataW Value} (hM:HeldMid wm B b h T om mb f) (hBm:B≤wm.heap.size) (hs:treeSum l∉T.map (·.1)) (hok:HeldOk {h with trees:=T++[(treeSum l,l)]})
  (blk5:w5.heap[b]? =some (.cells #[.int .i64 h.most,y,.map (some mb)] 110 (0,0))) (K5:KeepsU 2 b HeldRow B wm w5) (hY5:IOwn w5 wm.heap.size y (T.map (·.1)++[treeSum l])) (hb6:Below w5.heap.size w5.drew w6) (hz:FOwn w6 w5.drew.heap.size z l)
  (d1:w6.ownsMap Tryz.prog 3 RAny mb T.length D) (d2:Maps.size D=T.length) (d3:∀i,Maps.has D (.int .i64 i)=(f i).isSome) (d4:∀i z,D.atKey (.int .i64 i) z=((f i).map DataW.held).getD z)
  (o7:w7.ownsMap Tryz.prog 3 RAny mb j (D.put (.int .i64 (treeSum l)) (.held z))) (ht:w6.mapTurned w7 mb):HeldIs w7 B b {h with trees:=T++[(treeSum l,l)]}∧KeepsU 2 b HeldRow B wm w7∧w7.cell? ⟨b,1,none⟩=some y:=by
 have hB5:B≤w5.heap.size:=Nat.le_trans hBm K5.below.size;have hb6':Below w5.heap.size w5 w6:=(below_drewN _ w5 1).trans hb6;have K6:KeepsU 2 b HeldRow B w5 w6:=KeepsU.of hb6' hB5;have K7:=heldTurned_keeps ht hM.hm (Nat.le_trans hB5 hb6'.size) hM.sp;have K67:=K6.trans K7;have K:=K5.trans K67;have blk6:w6.heap[b]? =some (.cells #[.int .i64 h.most,y,.map (some mb)] 110 (0,0)):=by
  rw [hb6'.block b (Array.getElem?_eq_some_iff.1 blk5).1];exact blk5
 have hnone:f (treeSum l)=none:=by
  rcases hM.vals (treeSum l) with ⟨_,hv⟩|⟨l',v,hv,_,_⟩
  ·exact hv
  ·rw [getL_none hs] at hv;cases hv
 have m7:=MapI.put d1 d2 d3 d4 (treeSum l) z o7;rw [hnone] at m7;refine ⟨⟨hok,y,mb,fun i=>if i=treeSum l then some z else f i,?_⟩,K,(held_ready (held_turned blk6 ht)).2.1⟩;refine {hb:=hM.hb,hm:=hM.hm,hlt:=hM.hlt,blk:=held_turned blk6 ht,order:=?_,map:=?_,vals:=fun i=>?_}
 ·have e:({h with trees:=T++[(treeSum l,l)]}:HeldB).sums=T.map (·.1)++[treeSum l]:=by unfold HeldB.sums;simp
  rw [e];exact IOwn.low (K67.owns hY5 heldRow_ints) hBm
 ·show MapI w7 mb (T++[(treeSum l,l)]).length _;rw [List.length_append];exact m7
 ·show HVal _ B (getL (T++[(treeSum l,l)]) i) _;rw [getL_app i hs];by_cases hi:i=treeSum l
  ·rw [if_pos hi];simp only [if_pos hi];exact .inr ⟨l,z,rfl,rfl,FOwn.low (K7.owns hz heldRow_files) hB5⟩
  ·rw [if_neg hi];simp only [if_neg hi];exact (hM.vals i).keeps K.toKeeps heldRow_files
theorem row_tail {w:World} {base g n cap:Nat} {zs:List Int} (h:IOwn w base (.slice (some ⟨g,0,none⟩) n cap) zs) (hn:0<n):Row encInt 1 w (.slice (some ⟨g,1,none⟩) (n-1) (cap-1)) (zs.drop 1):=by
 obtain ⟨ao,cp,e⟩:=IOwn.shape h;injection e with e1 e2 e3
 rcases (IOwn.row h).one with ⟨e,_⟩|⟨b,off,cap',e,h1,h2,h3,h4⟩
 ·cases e
 ·injection e with q1 q2 q3
  injection q1 with q1
  injection q1 with q1 q4 _
  subst q1;subst q3;subst q4;have hl:(zs.drop 1).length=n-1:=by rw [List.length_drop];omega
  refine .inr ⟨g,1,cap-1,by rw [hl],by rw [hl];omega,by omega,h3,fun i hi j hj=>?_⟩;obtain rfl:j=0:=by omega
  rw [hl] at hi;have:=h4 (1+i) (by omega);rw [Nat.mul_one,Nat.add_zero,←Nat.zero_add (1+i),this];simp [Nat.add_comm]
theorem row_tail0 {w:World} {base g:Nat} {zs:List Int} (h:IOwn w base (.slice (some ⟨g,0,none⟩) 1 1) zs):Row encInt 1 w (.slice (some ⟨g,0,none⟩) 0 0) (zs.drop 1):=by
 obtain ⟨ao,cp,e⟩:=IOwn.shape h;injection e with e1 e2 e3
 have hz:zs.drop 1=[]:=List.drop_of_length_le (by omega);rw [hz];exact .inr ⟨g,0,0,rfl,Nat.le_refl _,Nat.zero_le _,((World.ownsRow.lt h) g rfl).2,fun i hi=>absurd hi (Nat.not_lt_zero _)⟩
theorem mid_drop {w w2:World} {B b mb j g cap:Nat} {om:Value} {h:HeldB} {f:Int→Option Value} {D:DataW Value} (h0:HeldOk h) (hA:HeldAt w B b h (.slice (some ⟨g,0,none⟩) h.trees.length cap) mb f) (hk:0<h.trees.length) (hBw:B≤w.heap.size)
  (d1:w.ownsMap Tryz.prog 3 RAny mb h.trees.length D) (d2:Maps.size D=h.trees.length) (d3:∀i,Maps.has D (.int .i64 i)=(f i).isSome) (d4:∀i z,D.atKey (.int .i64 i) z=((f i).map DataW.held).getD z)
  (o2:w2.ownsMap Tryz.prog 3 RAny mb j (D.del (.int .i64 h.trees[0].1))) (ht:w.mapTurned w2 mb)
  (hom:∀w':World,IOwn w' B (.slice (some ⟨g,0,none⟩) h.trees.length cap) h.sums→Row encInt 1 w' om (h.sums.drop 1)):
  HeldMid (w2.setCell ⟨b,1,none⟩ om) B b h (h.trees.drop 1) om mb (fun i=>if i=h.trees[0].1 then none else f i)∧KeepsU 2 b HeldRow B w (w2.setCell ⟨b,1,none⟩ om):=by
 have K1:=heldTurned_keeps ht hA.hm hBw hA.sp;have blk2:=held_turned hA.blk ht;have K3:=held_store blk2 hA.hb (Nat.le_trans hBw K1.below.size) om;have K:=K1.trans K3;have m2:=MapI.del d1 d2 d3 d4 h.trees[0].1 o2;have hne:=mapI_cells blk2 m2;have hsome:(f h.trees[0].1).isSome=true:=by
  rcases hA.vals h.trees[0].1 with ⟨hv,_⟩|⟨l,v,_,hv,_⟩
  ·exfalso
   cases hT:h.trees with
   |nil=>rw [hT] at hk;exact absurd hk (Nat.lt_irrefl _)
   |cons p L=>
    have e:h.trees[0].1=p.1:=by simp [hT]
    rw [e,hT] at hv;unfold getL at hv;rw [if_pos rfl] at hv
    cases hv
  ·rw [hv];rfl
 rw [if_pos hsome] at m2;refine ⟨{hb:=hA.hb,hm:=hA.hm,hlt:=hA.hlt,blk:=held_set blk2 _,order:=?_,map:=?_,vals:=fun i=>?_},K⟩
 ·rw [List.map_drop];exact hom _ (K.owns hA.order heldRow_ints)
 ·rw [List.length_drop];refine m2.keep ?_;rw [Below.heap_setCell _ _ _ _ hne]
 ·rw [getL_tail hk i h0.nodup];by_cases hi:i=h.trees[0].1
  ·rw [if_pos hi];simp only [if_pos hi];exact .inl ⟨rfl,rfl⟩
  ·rw [if_neg hi];simp only [if_neg hi];exact (hA.vals i).keeps K.toKeeps heldRow_files
theorem order_first {w:World} {B b mb cap:Nat} {h:HeldB} {oo:Option Addr} {f:Int→Option Value} (hA:HeldAt w B b h (.slice oo h.trees.length cap) mb f) (hk:0<h.trees.length):∃g,oo=some ⟨g,0,none⟩∧w.cell? ⟨g,0,none⟩=some (.int .i64 h.trees[0].1):=by
 rcases hA.order.2 with ⟨e,h0⟩|⟨g,cap',cur,e,hb,hg,hn,hc,hs,ht⟩
 ·rw [sums_len] at h0;omega
 ·injection e with e1 e2 e3
  refine ⟨g,e1,?_⟩;rcases (IOwn.row hA.order).one with ⟨e,_⟩|⟨b2,off,cap2,e,h1,h2,h3,h4⟩
  ·rw [e1] at e;cases e
  ·rw [e1] at e;injection e with q1 _ _
   injection q1 with q1
   injection q1 with q1 q2 _
   subst q1;subst q2;have:=h4 0 (by rw [sums_len];exact hk);rw [sums_at h 0 hk] at this;exact this
theorem order_cap {w:World} {B b mb cap:Nat} {h:HeldB} {oo:Option Addr} {f:Int→Option Value} (hA:HeldAt w B b h (.slice oo h.trees.length cap) mb f):h.trees.length≤cap:=by
 rcases hA.order.2 with ⟨e,h0⟩|⟨g,cap',cur,e,hb,hg,hn,hc,hs,ht⟩
 ·rw [sums_len] at h0;omega
 ·injection e with e1 e2 e3
  rw [sums_len] at hn;omega
theorem held_key {h:HeldB} (h0:HeldOk h) (hk:0<h.trees.length):I64 h.trees[0].1:=by
 rw [(h0.right _ (List.getElem_mem hk)).2];exact treeSum_i64 _
def OrderFresh (w w':World) (b:Nat):Prop:=∀ov',w'.cell? ⟨b,1,none⟩=some ov'→w.cell? ⟨b,1,none⟩=some ov'∨∀g,ov'.ownBlock=some g→w.heap.size≤g
theorem OrderFresh.same {w w':World} {b:Nat} (hb:Below w.heap.size w w') (h:b<w.heap.size):OrderFresh w w' b:=fun ov' h'=>.inl (by rw [←hb.cell (p:=⟨b,1,none⟩) h];exact h')
theorem HeldIs.lt {w:World} {B b:Nat} {h:HeldB} (hi:HeldIs w B b h):b<w.heap.size:=by
 obtain ⟨_,ov,mb,f,hA⟩:=hi;exact (Array.getElem?_eq_some_iff.1 hA.blk).1
def HPutPost (E:Nat→Addr) (B b:Nat) (r:Er×Int×HeldB) (w:World) (e:Ending) (w':World):Prop:=
 (∃ev,e=.returned (.tuple #[.int .i64 r.2.1,ev])∧IsErr E w' ev r.1)∧HeldIs w' B b r.2.2∧KeepsU 2 b HeldRow B w w'∧OrderFresh w w' b
theorem heldPut_any {E:Nat→Addr} (B b:Nat) (hh:HeldB) (v:Value) (l:List FileB) (w:World) (hvk:∀w',Keeps HeldRow B w w'→FArg w' v l) (hl:l.length≤10000) (hS:∀f∈l,SmallF f) (hi:HeldIs w B b hh) (hBw0:B≤w.heap.size) (hK:KEnv E w):
  Calls Tryz.prog 165 #[.pointer (some ⟨b,0,none⟩),v] w (HPutPost E B b (putH hh l) w):=by
 obtain ⟨i0,hi0,hz0,hz1,hz2⟩:=info_parts Tryz.infoInt;have hv:=hvk w (Keeps.refl _ _ _);have C:=Lib.hid (packSum_any v l w hv.1 hl hS hK);have HK:=Lib.hid hK;have HV:=Lib.hid hvk;have HI:=Lib.hid hi;obtain ⟨ao,cap,rfl,_⟩:=hv.1;clear hvk hv hi hK hS;go_enter Tryz.func165,Tryz.ntmps165;go_wp2_with fail;refine C.out.mono ?_;clear C;rintro e w1 ⟨⟨ev,rfl,HER⟩,hb1⟩;have HI1:=Lib.hid (HI.out.below hb1);have KM0:Hid (KeepsU 2 b HeldRow B w w1):=KeepsU.of hb1 hBw0;have hBw:B≤w1.heap.size:=Nat.le_trans hBw0 hb1.size;by_cases hc:(treeEr l).code=0
 ·obtain rfl:ev=.nilIface:=by
   have q:=HER.out;rw [(treeEr_zero hc).1] at q;exact q.nil_inv
  have HC:=Lib.hid hc;rw [show ((sumL (packT l):Nat):Int)=treeSum l from rfl];clear hc HER;obtain ⟨h0,ov,mb,f,hA⟩:=HI1.out;obtain ⟨oo,oc,rfl⟩:=IOwn.shape hA.order;obtain ⟨c0,c1,c2,_⟩:=held_ready hA.blk;have hln:=h0.len;have hfew:=h0.few;by_cases hm:hh.most=0
  ·have HR:Hid (putH hh l=(⟨8,none⟩,0,hh)):=by show _=_;unfold putH;rw [if_neg (by rw [HC.out];simp),if_pos hm]
   have e1:w1.cell? ⟨7,0,none⟩=some (sentV E 7):=(HK.out.1.1.ext hb1).err 7 (by decide);rw [hm] at c0;clear hA h0 hm;go_wp2_with fail;go_quiet (fail);go_wp2_with fail;go_ret2;refine ⟨⟨_,by rw [HR.out];rfl,by rw [HR.out];exact IsErr.base E _ 7 (by decide)⟩,by rw [HR.out];exact HI1.out.below (below_drewN _ _ _),KM0.out.trans (KeepsU.of (below_drewN _ _ _) hBw),OrderFresh.same (hb1.trans (below_drewN _ _ _)) HI.out.lt⟩
  ·have hm0:((hh.most:Int)==0)=false:=by rw [beq_eq_false_iff_ne];omega
   have C:=Lib.hid (containsInt_any (.slice oo hh.sums.length oc) hh.sums (treeSum l) w1 (by rw [sums_len];omega) (IOwn.row hA.order));by_cases hin:(ixOf (treeSum l) hh.sums).isSome=true
   ·have HR:Hid (putH hh l=(⟨0,none⟩,treeSum l,hh)):=by show _=_;unfold putH;rw [if_neg (by rw [HC.out];simp),if_neg hm,if_pos hin]
    rw [hin] at C;clear hA h0 hin hm;go_wp2_with fail;refine C.out.mono ?_;clear C;rintro e w2 ⟨rfl,rfl⟩;go_wp2_with fail;go_ret2;refine ⟨⟨_,by rw [HR.out];rfl,by rw [HR.out];exact IsErr.nil E _⟩,by rw [HR.out];exact HI1.out,KM0.out,OrderFresh.same hb1 HI.out.lt⟩
   ·have HR:Hid (putH hh l=(⟨0,none⟩,treeSum l,{hh with trees:=hh.trees.drop (if hh.most≤hh.trees.length then 1 else 0)++[(treeSum l,l)]})):=by
     show _=_;unfold putH;rw [if_neg (by rw [HC.out];simp),if_neg hm,if_neg hin]
    have hok:Hid (HeldOk {hh with trees:=hh.trees.drop (if hh.most≤hh.trees.length then 1 else 0)++[(treeSum l,l)]}):=by
     have:=putH_ok l h0;rw [HR.out] at this;exact this
    have hnot:treeSum l∉hh.trees.map (·.1):=fun hmem=>hin (ixOf_isSome.2 hmem)
    have hfalse:(ixOf (treeSum l) hh.sums).isSome=false:=by simpa using hin
    rw [hfalse] at C;have H0:=Lib.hid h0;have HA:=Lib.hid hA;have hsl:=sums_len hh;rw [hsl] at c1 C HA;clear hA h0 hin hfalse;go_wp2_with fail;refine C.out.mono ?_;clear C;rintro e w2 ⟨rfl,rfl⟩;go_wp2_with fail;go_quiet (fail);obtain ⟨wd,hwd⟩:∃wd,w2.drewN nq=wd:=⟨_,rfl⟩;have KD:Hid (KeepsU 2 b HeldRow B w2 wd):=by rw [←hwd];exact KeepsU.of (below_drewN _ _ _) hBw
    have HAD:Hid (HeldAt wd B b hh (.slice oo hh.trees.length oc) mb f):=by rw [←hwd];exact ⟨HA.out.hb,HA.out.hm,HA.out.hlt,HA.out.blk,HA.out.order,HA.out.map,HA.out.vals⟩
    have hBd:B≤wd.heap.size:=below_size KD.out.below hBw;rw [hwd];clear hwd c0 c1 c2 HA;by_cases hfull:hh.most≤hh.trees.length
    ·rw [if_pos hfull] at HR hok;have hff:decide ((hh.most:Int)≤(hh.trees.length:Int))=true:=decide_eq_true (by omega);have hpos:0<hh.trees.length:=by omega
     obtain ⟨c0,c1,c2,_⟩:=held_ready HAD.out.blk;obtain ⟨D,d1,d2,d3,d4⟩:=HAD.out.map;have Hd:=Lib.hid d1;have Hde:=Lib.hid (And.intro d2 (And.intro d3 d4));obtain ⟨g,rfl,hg0⟩:=order_first HAD.out hpos;have hkl:=keyInt hh.trees[0].1 (held_key H0.out hpos);clear d1 d2 d3 d4;have hn1:1≤hh.trees.length:=hpos;have hcap:hh.trees.length≤oc:=order_cap HAD.out;by_cases hoc:oc=1
     ·subst hoc;obtain ⟨n0,hn0⟩:∃n0,hh.trees.length=n0:=⟨_,rfl⟩;have hn0':hh.trees.length=1:=by omega
      have hom:∀w':World,IOwn w' B (.slice (some ⟨g,0,none⟩) hh.trees.length 1) hh.sums→Row encInt 1 w' (.slice (some ⟨g,0,none⟩) 0 0) (hh.sums.drop 1):=fun w' hw=>row_tail0 (by rw [hn0'] at hw;exact hw)
      have HOM:=Lib.hid hom;rw [hn0'] at c1;have hff:decide ((hh.most:Int)≤(1:Int))=true:=decide_eq_true (by omega);have HN:=Lib.hid hn0';clear hom hn0' hn0 hn1 hcap;go_wp2_with fail;go_region_law (refine step_delete_own rfl _ _ 107 3 rfl 124 Tryz.intKeyed Tryz.underlying107 RAny mb hh.trees.length D rfl Hd.out _ _ rfl hkl ?_;intro w3 o3 ht3)
      all_goals
       have HAE:Hid (HeldAt wd.drew B b hh (.slice (some ⟨g,0,none⟩) hh.trees.length 1) mb f):=⟨HAD.out.hb,HAD.out.hm,HAD.out.hlt,HAD.out.blk,HAD.out.order,HAD.out.map,HAD.out.vals⟩;have HMK:=Lib.hid (mid_drop (w:=wd.drew) H0.out HAE.out (hpos) hBd Hd.out Hde.out.1 Hde.out.2.1 Hde.out.2.2 o3 ht3 HOM.out);obtain ⟨_,p1,p2,p4⟩:=held_ready (held_turned HAE.out.blk ht3);clear c0 c1 c2;rw [HN.out] at p1;go_wp2_with fail;have KM:Hid (KeepsU 2 b HeldRow B w2 (w3.setCell ⟨b,1,none⟩ (.slice (some ⟨g,0,none⟩) 0 0))):=KD.out.trans ((KeepsU.of (below_drewN _ wd 1) hBd).trans HMK.out.2);have HMID:=Lib.hid HMK.out.1;have hsT:treeSum l∉(hh.trees.drop 1).map (·.1):=fun hm=>hnot (by rw [List.map_drop] at hm;exact List.mem_of_mem_drop hm)
       have hTn:(hh.trees.drop 1).length≤40:=by rw [List.length_drop];omega
       generalize (fun i=>if i=hh.trees[0].1 then none else f i)=f' at HMID;generalize hh.trees.drop 1=T at HMID hsT hTn HR hok;generalize w3.setCell ⟨b,1,none⟩ (.slice (some ⟨g,0,none⟩) 0 0)=wm at HMID KM⊢;clear HMK HAE p1 p2 p4 o3 ht3 Hd Hde hnot HAD KD hg0;have C:=Lib.hid (cloneInts_any (.slice (some ⟨g,0,none⟩) 0 0) (T.map (·.1)) wm (by rw [List.length_map];omega) HMID.out.order);have hBm:B≤wm.heap.size:=below_size KM.out.below hBw;refine C.out.mono ?_;clear C;rintro e w3 ⟨⟨x,rfl,HX⟩,hb3⟩;have hx1:(T.map (·.1)).length+1≤maxLen:=by rw [List.length_map,maxLen_eq];omega
       have hx2:((T.map (·.1)).length+1)*8≤140737488355328:=by rw [List.length_map];omega
       have hx3:wm.heap.size≤(w3.alloc (.cells #[.int .i64 (treeSum l)] 3)).heap.size:=by have:=hb3.size;simp;omega
       go_wp2_with (at_builtin;refine wpList_append_own _ rfl _ _ 108 rfl wm.heap.size 3 i0 (.int .i64 0) 1 8 Tryz.underlying108 hi0 hz0 hz1 hz2 rfl (by decide) _ _ _ rfl (World.ownsRow.alloc HX.out _) ⟨w3.heap.size,0,none⟩ 1 1 [.int .i64 (treeSum l)] rfl rfl ?c1 ?c2 hx1 hx2 hx3 ?_)
       case c1=>
        intro j u hj
        match j,hj with
        |0,hj=>simp at hj;subst hj;simp [Addr.add]
       case c2=>intro u hu;simp at hu;subst hu;rfl
       intro y w4 hown hgrow _;have HY:Hid (IOwn w4 wm.heap.size y (T.map (·.1)++[treeSum l])):=by
        show World.ownsRow _ _ _ _ _ _ _;simpa using hown
       have hb4:Below wm.heap.size wm w4:=(hb3.alloc hb3.size _).grown hgrow hx3 (fun q hq=>(World.ownsRow.lt HX.out q hq).1);obtain ⟨yo,yc,rfl⟩:=IOwn.shape HY.out;obtain ⟨n5,hn5⟩:∃n5,(T.map (·.1)++[treeSum l]).length=n5:=⟨_,rfl⟩;rw [hn5] at HY⊢;have HB4:=Lib.hid (mid_block HMID.out hb4);obtain ⟨_,g4,_,f4⟩:=held_ready HB4.out;clear hown hgrow HX hb3 hx1 hx2 hx3;have HS:=Lib.hid (mid_store HMID.out hb4 hBm (.slice yo n5 yc));have HY5:=Lib.hid (HS.out.2.2.2.owns HY.out heldRow_ints);obtain ⟨w5,hw5⟩:∃w5,w4.setCell ⟨b,1,none⟩ (.slice yo n5 yc)=w5:=⟨_,rfl⟩;rw [hw5] at HS HY5;have HW5:=Lib.hid hw5;clear hw5 HY HB4 hb4;go_wp2_with fail;rw [HW5.out];clear g4 f4 HW5;have hB5:B≤w5.heap.size:=below_size HS.out.2.1.below hBm;have C:=Lib.hid (cloneFiles_any _ l w5.drew (by omega) (HV.out _ (KM0.out.trans (KM.out.trans (HS.out.2.1.trans (KeepsU.of (below_drewN _ w5 1) hB5)))).toKeeps));obtain ⟨_,_,c25,_⟩:=held_ready HS.out.1;have MW:Hid (∀w6:World,Below w5.heap.size w5.drew w6→MapI w6 mb T.length f'∧w6.cell? ⟨b,2,none⟩=some (.map (some mb))):=fun w6 hb6=>by
        have m5:=HS.out.2.2.1;refine ⟨m5.keep (hb6.block mb m5.lt),?_⟩;rw [hb6.cell (p:=⟨b,2,none⟩) (Array.getElem?_eq_some_iff.1 HS.out.1).1];exact (held_ready HS.out.1).2.2.1
       have z25:w5.drew.cell? ⟨b,2,none⟩=some (.map (some mb)):=c25;have hkl:=keyInt (treeSum l) (treeSum_i64 l);have hTl:T.length<maxLen:=by rw [maxLen_eq];omega
       go_region_law (go_simp;go_at_call 167;refine C.out.mono ?_;clear C;rintro e w6 ⟨⟨z,rfl,HZ⟩,hb6⟩;obtain ⟨m6,c6⟩:=MW.out w6 hb6;obtain ⟨D,d1,d2,d3,d4⟩:=m6;have Hd:=Lib.hid d1;have Hde:=Lib.hid (And.intro d2 (And.intro d3 d4));obtain ⟨w7,hrun,o7,ht7⟩:=d1.store Tryz.intKeyed Tryz.underlying107 hTl hkl (show RAny z=some (.held z,[]) from rfl);clear d1 d2 d3 d4)
       all_goals
        have HF:=Lib.hid (heldAt_put HMID.out hBm hsT hok.out HS.out.1 HS.out.2.1 HY5.out hb6 HZ.out Hd.out Hde.out.1 Hde.out.2.1 Hde.out.2.2 o7 ht7);have HOF:Hid (OrderFresh w w7 b):=fun ov' h'=>.inr (fun g' hg'=>by
         have hy:=HF.out.2.2;rw [hy] at h';obtain rfl:=Option.some.inj h';have h8:=(World.ownsRow.lt HY5.out g' hg').1;have h9:=KM0.out.below.size;have h10:=KM.out.below.size;omega)
        clear HY5 HS MW Hd Hde HZ o7;go_wp2_with fail;go_ret2;refine ⟨⟨.nilIface,by rw [HR.out];rfl,by rw [HR.out];exact IsErr.nil E _⟩,by rw [HR.out];exact HF.out.1,KM0.out.trans (KM.out.trans HF.out.2.1),HOF.out⟩
     ·have hom:∀w':World,IOwn w' B (.slice (some ⟨g,0,none⟩) hh.trees.length oc) hh.sums→Row encInt 1 w' (.slice (some ⟨g,1,none⟩) (hh.trees.length-1) (oc-1)) (hh.sums.drop 1):=fun w' hw=>row_tail hw hpos
      have HOM:=Lib.hid hom;have hoc1:¬oc-1=0:=by omega
      clear hom;go_wp2_with fail;go_region_law (refine step_delete_own rfl _ _ 107 3 rfl 124 Tryz.intKeyed Tryz.underlying107 RAny mb hh.trees.length D rfl Hd.out _ _ rfl hkl ?_;intro w3 o3 ht3)
      all_goals
       have HAE:Hid (HeldAt wd.drew B b hh (.slice (some ⟨g,0,none⟩) hh.trees.length oc) mb f):=⟨HAD.out.hb,HAD.out.hm,HAD.out.hlt,HAD.out.blk,HAD.out.order,HAD.out.map,HAD.out.vals⟩;have HMK:=Lib.hid (mid_drop (w:=wd.drew) H0.out HAE.out (hpos) hBd Hd.out Hde.out.1 Hde.out.2.1 Hde.out.2.2 o3 ht3 HOM.out);obtain ⟨_,p1,p2,p4⟩:=held_ready (held_turned HAE.out.blk ht3);clear c0 c1 c2;go_wp2_with fail;have KM:Hid (KeepsU 2 b HeldRow B w2 (w3.setCell ⟨b,1,none⟩ (.slice (some ⟨g,1,none⟩) (hh.trees.length-1) (oc-1)))):=KD.out.trans ((KeepsU.of (below_drewN _ wd 1) hBd).trans HMK.out.2);have HMID:=Lib.hid HMK.out.1;have hsT:treeSum l∉(hh.trees.drop 1).map (·.1):=fun hm=>hnot (by rw [List.map_drop] at hm;exact List.mem_of_mem_drop hm)
       have hTn:(hh.trees.drop 1).length≤40:=by rw [List.length_drop];omega
       generalize (fun i=>if i=hh.trees[0].1 then none else f i)=f' at HMID;generalize hh.trees.drop 1=T at HMID hsT hTn HR hok;generalize hh.trees.length-1=n1 at HMID KM⊢;generalize w3.setCell ⟨b,1,none⟩ (.slice (some ⟨g,1,none⟩) n1 (oc-1))=wm at HMID KM⊢;clear HMK HAE p1 p2 p4 o3 ht3 Hd Hde hnot HAD KD hg0;have C:=Lib.hid (cloneInts_any (.slice (some ⟨g,1,none⟩) n1 (oc-1)) (T.map (·.1)) wm (by rw [List.length_map];omega) HMID.out.order);have hBm:B≤wm.heap.size:=below_size KM.out.below hBw;refine C.out.mono ?_;clear C;rintro e w3 ⟨⟨x,rfl,HX⟩,hb3⟩;have hx1:(T.map (·.1)).length+1≤maxLen:=by rw [List.length_map,maxLen_eq];omega
       have hx2:((T.map (·.1)).length+1)*8≤140737488355328:=by rw [List.length_map];omega
       have hx3:wm.heap.size≤(w3.alloc (.cells #[.int .i64 (treeSum l)] 3)).heap.size:=by have:=hb3.size;simp;omega
       go_wp2_with (at_builtin;refine wpList_append_own _ rfl _ _ 108 rfl wm.heap.size 3 i0 (.int .i64 0) 1 8 Tryz.underlying108 hi0 hz0 hz1 hz2 rfl (by decide) _ _ _ rfl (World.ownsRow.alloc HX.out _) ⟨w3.heap.size,0,none⟩ 1 1 [.int .i64 (treeSum l)] rfl rfl ?c1 ?c2 hx1 hx2 hx3 ?_)
       case c1=>
        intro j u hj
        match j,hj with
        |0,hj=>simp at hj;subst hj;simp [Addr.add]
       case c2=>intro u hu;simp at hu;subst hu;rfl
       intro y w4 hown hgrow _;have HY:Hid (IOwn w4 wm.heap.size y (T.map (·.1)++[treeSum l])):=by
        show World.ownsRow _ _ _ _ _ _ _;simpa using hown
       have hb4:Below wm.heap.size wm w4:=(hb3.alloc hb3.size _).grown hgrow hx3 (fun q hq=>(World.ownsRow.lt HX.out q hq).1);obtain ⟨yo,yc,rfl⟩:=IOwn.shape HY.out;obtain ⟨n5,hn5⟩:∃n5,(T.map (·.1)++[treeSum l]).length=n5:=⟨_,rfl⟩;rw [hn5] at HY⊢;have HB4:=Lib.hid (mid_block HMID.out hb4);obtain ⟨_,g4,_,f4⟩:=held_ready HB4.out;clear hown hgrow HX hb3 hx1 hx2 hx3;have HS:=Lib.hid (mid_store HMID.out hb4 hBm (.slice yo n5 yc));have HY5:=Lib.hid (HS.out.2.2.2.owns HY.out heldRow_ints);obtain ⟨w5,hw5⟩:∃w5,w4.setCell ⟨b,1,none⟩ (.slice yo n5 yc)=w5:=⟨_,rfl⟩;rw [hw5] at HS HY5;have HW5:=Lib.hid hw5;clear hw5 HY HB4 hb4;go_wp2_with fail;rw [HW5.out];clear g4 f4 HW5;have hB5:B≤w5.heap.size:=below_size HS.out.2.1.below hBm;have C:=Lib.hid (cloneFiles_any _ l w5.drew (by omega) (HV.out _ (KM0.out.trans (KM.out.trans (HS.out.2.1.trans (KeepsU.of (below_drewN _ w5 1) hB5)))).toKeeps));obtain ⟨_,_,c25,_⟩:=held_ready HS.out.1;have MW:Hid (∀w6:World,Below w5.heap.size w5.drew w6→MapI w6 mb T.length f'∧w6.cell? ⟨b,2,none⟩=some (.map (some mb))):=fun w6 hb6=>by
        have m5:=HS.out.2.2.1;refine ⟨m5.keep (hb6.block mb m5.lt),?_⟩;rw [hb6.cell (p:=⟨b,2,none⟩) (Array.getElem?_eq_some_iff.1 HS.out.1).1];exact (held_ready HS.out.1).2.2.1
       have z25:w5.drew.cell? ⟨b,2,none⟩=some (.map (some mb)):=c25;have hkl:=keyInt (treeSum l) (treeSum_i64 l);have hTl:T.length<maxLen:=by rw [maxLen_eq];omega
       go_region_law (go_simp;go_at_call 167;refine C.out.mono ?_;clear C;rintro e w6 ⟨⟨z,rfl,HZ⟩,hb6⟩;obtain ⟨m6,c6⟩:=MW.out w6 hb6;obtain ⟨D,d1,d2,d3,d4⟩:=m6;have Hd:=Lib.hid d1;have Hde:=Lib.hid (And.intro d2 (And.intro d3 d4));obtain ⟨w7,hrun,o7,ht7⟩:=d1.store Tryz.intKeyed Tryz.underlying107 hTl hkl (show RAny z=some (.held z,[]) from rfl);clear d1 d2 d3 d4)
       all_goals
        have HF:=Lib.hid (heldAt_put HMID.out hBm hsT hok.out HS.out.1 HS.out.2.1 HY5.out hb6 HZ.out Hd.out Hde.out.1 Hde.out.2.1 Hde.out.2.2 o7 ht7);have HOF:Hid (OrderFresh w w7 b):=fun ov' h'=>.inr (fun g' hg'=>by
         have hy:=HF.out.2.2;rw [hy] at h';obtain rfl:=Option.some.inj h';have h8:=(World.ownsRow.lt HY5.out g' hg').1;have h9:=KM0.out.below.size;have h10:=KM.out.below.size;omega)
        clear HY5 HS MW Hd Hde HZ o7;go_wp2_with fail;go_ret2;refine ⟨⟨.nilIface,by rw [HR.out];rfl,by rw [HR.out];exact IsErr.nil E _⟩,by rw [HR.out];exact HF.out.1,KM0.out.trans (KM.out.trans HF.out.2.1),HOF.out⟩
    ·rw [if_neg hfull,List.drop_zero] at HR hok;have hff:decide ((hh.most:Int)≤(hh.trees.length:Int))=false:=decide_eq_false (by omega);have HMID:=Lib.hid HAD.out.mid;have KM:=KD;have hsT:=hnot;obtain ⟨c0,c1,c2,_⟩:=held_ready HAD.out.blk;obtain ⟨T,hT⟩:∃T,hh.trees=T:=⟨_,rfl⟩;rw [hT] at HMID HR hok hsT c1 hln;have hTn:T.length≤40:=by omega
     obtain ⟨wm,hwm⟩:∃wm,wd=wm:=⟨_,rfl⟩;rw [hwm] at HMID KM c0 c1 c2;rw [hwm];clear hT hnot HAD KD hwm;go_wp2_with fail;have C:=Lib.hid (cloneInts_any (.slice oo T.length oc) (T.map (·.1)) wm (by rw [List.length_map];omega) HMID.out.order);have hBm:B≤wm.heap.size:=below_size KM.out.below hBw;refine C.out.mono ?_;clear C;rintro e w3 ⟨⟨x,rfl,HX⟩,hb3⟩;have hx1:(T.map (·.1)).length+1≤maxLen:=by rw [List.length_map,maxLen_eq];omega
     have hx2:((T.map (·.1)).length+1)*8≤140737488355328:=by rw [List.length_map];omega
     have hx3:wm.heap.size≤(w3.alloc (.cells #[.int .i64 (treeSum l)] 3)).heap.size:=by have:=hb3.size;simp;omega
     go_wp2_with (at_builtin;refine wpList_append_own _ rfl _ _ 108 rfl wm.heap.size 3 i0 (.int .i64 0) 1 8 Tryz.underlying108 hi0 hz0 hz1 hz2 rfl (by decide) _ _ _ rfl (World.ownsRow.alloc HX.out _) ⟨w3.heap.size,0,none⟩ 1 1 [.int .i64 (treeSum l)] rfl rfl ?c1 ?c2 hx1 hx2 hx3 ?_)
     case c1=>
      intro j u hj
      match j,hj with
      |0,hj=>simp at hj;subst hj;simp [Addr.add]
     case c2=>intro u hu;simp at hu;subst hu;rfl
     intro y w4 hown hgrow _;have HY:Hid (IOwn w4 wm.heap.size y (T.map (·.1)++[treeSum l])):=by
      show World.ownsRow _ _ _ _ _ _ _;simpa using hown
     have hb4:Below wm.heap.size wm w4:=(hb3.alloc hb3.size _).grown hgrow hx3 (fun q hq=>(World.ownsRow.lt HX.out q hq).1);obtain ⟨yo,yc,rfl⟩:=IOwn.shape HY.out;obtain ⟨n5,hn5⟩:∃n5,(T.map (·.1)++[treeSum l]).length=n5:=⟨_,rfl⟩;rw [hn5] at HY⊢;have HB4:=Lib.hid (mid_block HMID.out hb4);obtain ⟨_,g4,_,f4⟩:=held_ready HB4.out;clear hown hgrow HX hb3 hx1 hx2 hx3;have HS:=Lib.hid (mid_store HMID.out hb4 hBm (.slice yo n5 yc));have HY5:=Lib.hid (HS.out.2.2.2.owns HY.out heldRow_ints);obtain ⟨w5,hw5⟩:∃w5,w4.setCell ⟨b,1,none⟩ (.slice yo n5 yc)=w5:=⟨_,rfl⟩;rw [hw5] at HS HY5;have HW5:=Lib.hid hw5;clear hw5 HY HB4 hb4;go_wp2_with fail;rw [HW5.out];clear g4 f4 HW5;have hB5:B≤w5.heap.size:=below_size HS.out.2.1.below hBm;have C:=Lib.hid (cloneFiles_any _ l w5.drew (by omega) (HV.out _ (KM0.out.trans (KM.out.trans (HS.out.2.1.trans (KeepsU.of (below_drewN _ w5 1) hB5)))).toKeeps));obtain ⟨_,_,c25,_⟩:=held_ready HS.out.1;have MW:Hid (∀w6:World,Below w5.heap.size w5.drew w6→MapI w6 mb T.length f∧w6.cell? ⟨b,2,none⟩=some (.map (some mb))):=fun w6 hb6=>by
      have m5:=HS.out.2.2.1;refine ⟨m5.keep (hb6.block mb m5.lt),?_⟩;rw [hb6.cell (p:=⟨b,2,none⟩) (Array.getElem?_eq_some_iff.1 HS.out.1).1];exact (held_ready HS.out.1).2.2.1
     have z25:w5.drew.cell? ⟨b,2,none⟩=some (.map (some mb)):=c25;have hkl:=keyInt (treeSum l) (treeSum_i64 l);have hTl:T.length<maxLen:=by rw [maxLen_eq];omega
     go_region_law (go_simp;go_at_call 167;refine C.out.mono ?_;clear C;rintro e w6 ⟨⟨z,rfl,HZ⟩,hb6⟩;obtain ⟨m6,c6⟩:=MW.out w6 hb6;obtain ⟨D,d1,d2,d3,d4⟩:=m6;have Hd:=Lib.hid d1;have Hde:=Lib.hid (And.intro d2 (And.intro d3 d4));obtain ⟨w7,hrun,o7,ht7⟩:=d1.store Tryz.intKeyed Tryz.underlying107 hTl hkl (show RAny z=some (.held z,[]) from rfl);clear d1 d2 d3 d4)
     all_goals
      have HF:=Lib.hid (heldAt_put HMID.out hBm hsT hok.out HS.out.1 HS.out.2.1 HY5.out hb6 HZ.out Hd.out Hde.out.1 Hde.out.2.1 Hde.out.2.2 o7 ht7);have HOF:Hid (OrderFresh w w7 b):=fun ov' h'=>.inr (fun g' hg'=>by
       have hy:=HF.out.2.2;rw [hy] at h';obtain rfl:=Option.some.inj h';have h8:=(World.ownsRow.lt HY5.out g' hg').1;have h9:=KM0.out.below.size;have h10:=KM.out.below.size;omega)
      clear HY5 HS MW Hd Hde HZ o7;go_wp2_with fail;go_ret2;refine ⟨⟨.nilIface,by rw [HR.out];rfl,by rw [HR.out];exact IsErr.nil E _⟩,by rw [HR.out];exact HF.out.1,KM0.out.trans (KM.out.trans HF.out.2.1),HOF.out⟩
 ·have HR:Hid (putH hh l=(treeEr l,0,hh)):=by show _=_;unfold putH;rw [if_pos hc]
  have h00:((sumL (packT l):Nat):Int)=0:=by
   have:packT l=[]:=by unfold packT;rw [if_neg hc]
   rw [this];rfl
  obtain ⟨te,xq,rfl⟩:=HER.out.some_inv hc;clear hc;go_wp2_with fail;go_ret2;refine ⟨⟨_,by rw [HR.out];rfl,by rw [HR.out];exact HER.out⟩,by rw [HR.out];exact HI1.out,KM0.out,OrderFresh.same hb1 HI.out.lt⟩
theorem getL_mem:∀{L:List (Int×List FileB)} {n:Int},n∈L.map (·.1)→∃l,getL L n=some l
 | [],_,h=>by cases h
 |p::L,n,h=>by
  unfold getL;by_cases hp:p.1=n
  ·rw [if_pos hp];exact ⟨_,rfl⟩
  ·rw [if_neg hp];rw [List.map_cons,List.mem_cons] at h;exact getL_mem (h.resolve_left (fun e=>hp e.symm))
theorem putH_most (h:HeldB) (l:List FileB):(putH h l).2.2.most=h.most:=by
 unfold putH;split
 ·rfl
 ·split
  ·rfl
  ·split<;>rfl
def TreeV (W0 w:World) (B:Nat) (v:Value) (l:List FileB):Prop:=FArg W0 v l∨FOwn w B v l
theorem TreeV.arg {W0 w:World} {B:Nat} {v:Value} {l:List FileB} (h:TreeV W0 w B v l) (hb:Below W0.heap.size W0 w):FArg w v l:=by
 rcases h with h|h
 ·exact h.ext hb
 ·exact FOwn.arg h
theorem TreeV.keeps {K:Obj→Prop} {W0 w w':World} {B B2:Nat} {v:Value} {l:List FileB} (h:TreeV W0 w B v l) (hk:Keeps K B2 w w') (h1:∀cs,¬K (.cells cs 170 (0,0))):TreeV W0 w' B v l:=by
 rcases h with h|h
 ·exact .inl h
 ·exact .inr (hk.owns h h1)
def VS (W0 w:World) (B:Nat):List (Int×Value)→List (Int×List FileB)→Prop
 | [],[]=>True
 |v::vs,t::ts=>v.1=t.1∧TreeV W0 w B v.2 t.2∧VS W0 w B vs ts
 |_,_=>False
theorem VS.keeps {K:Obj→Prop} {W0 w w':World} {B B2:Nat} (hk:Keeps K B2 w w') (h1:∀cs,¬K (.cells cs 170 (0,0))):∀{vs ts},VS W0 w B vs ts→VS W0 w' B vs ts
 | [],[],_=>trivial
 |_::_,_::_,h=>⟨h.1,h.2.1.keeps hk h1,VS.keeps hk h1 h.2.2⟩
theorem VS.len {W0 w:World} {B:Nat}:∀{vs ts},VS W0 w B vs ts→vs.length=ts.length
 | [],[],_=>rfl
 |v::vs,t::ts,h=>by rw [List.length_cons,List.length_cons,VS.len h.2.2]
theorem VS.sums {W0 w:World} {B:Nat}:∀{vs ts},VS W0 w B vs ts→vs.map (·.1)=ts.map (·.1)
 | [],[],_=>rfl
 |v::vs,t::ts,h=>by rw [List.map_cons,List.map_cons,VS.sums h.2.2,h.1]
theorem VS.drop {W0 w:World} {B:Nat}:∀{vs ts} (k:Nat),VS W0 w B vs ts→VS W0 w B (vs.drop k) (ts.drop k)
 |vs,ts,0,h=>by simpa using h
 | [],[],k+1,_=>trivial
 |v::vs,t::ts,k+1,h=>VS.drop k h.2.2
theorem VS.snoc {W0 w:World} {B:Nat}:∀{vs ts} {n:Int} {v:Value} {l:List FileB},VS W0 w B vs ts→TreeV W0 w B v l→VS W0 w B (vs++[(n,v)]) (ts++[(n,l)])
 | [],[],_,_,_,_,hf=>⟨rfl,hf,trivial⟩
 |_::_,_::_,_,_,_,h,hf=>⟨h.1,h.2.1,VS.snoc h.2.2 hf⟩
theorem VS.at {W0 w:World} {B:Nat}:∀{vs ts} (k:Nat) (h1:k<vs.length) (h2:k<ts.length),VS W0 w B vs ts→vs[k].1=ts[k].1∧TreeV W0 w B vs[k].2 ts[k].2
 |v::vs,t::ts,0,_,_,h=>⟨h.1,h.2.1⟩
 |v::vs,t::ts,k+1,h1,h2,h=>VS.at k (by simpa using h1) (by simpa using h2) h.2.2
def Slices (v:Value):Prop:=∃ao n cap,v=.slice ao n cap
theorem TreeV.slices {W0 w:World} {B:Nat} {v:Value} {l:List FileB} (h:TreeV W0 w B v l):Slices v:=by
 rcases h with ⟨⟨ao,cap,e,_⟩,_⟩|h
 ·exact ⟨ao,_,cap,e⟩
 ·obtain ⟨ao,cap,e⟩:=FOwn.shape h;exact ⟨ao,_,cap,e⟩
theorem VS.slices {W0 w:World} {B:Nat}:∀{vs ts},VS W0 w B vs ts→∀x∈vs,Slices x.2
 | [],[],_=>fun x hx=>by cases hx
 |v::vs,t::ts,h=>fun x hx=>by
  rcases List.mem_cons.1 hx with rfl|hx
  ·exact h.2.1.slices
  ·exact VS.slices h.2.2 x hx
theorem Below.vs {W0 w w':World} {B:Nat} {vs ts} (h:VS W0 w B vs ts) (hb:Below w.heap.size w w'):VS W0 w' B vs ts:=h.keeps (K:=fun _=>False) (B2:=w.heap.size) (Keeps.of hb (Nat.le_refl _)) (fun _ h=>h)
theorem Keeps.fresh {K:Obj→Prop} {B:Nat} {w a b:World} (h:Keeps K B w a) (hb:Below w.heap.size a b) (hB:B≤w.heap.size):Keeps K B w b:=
 ⟨h.below.trans (hb.mono hB),fun k o hk hn=>(hb.block k (Array.getElem?_eq_some_iff.1 hk).1).trans (h.keep k o hk hn)⟩
theorem ownsRow_low {w:World} {base B size n:Nat} {e:TypeId} {v:Value} {xs:List Value} (h:w.ownsRow base e size v n xs) (hB:B≤base):w.ownsRow B e size v n xs:=by
 refine ⟨h.1,?_⟩;rcases h.2 with h0|⟨g,cap,cur,hv,hb,hr⟩
 ·exact .inl h0
 ·exact .inr ⟨g,cap,cur,hv,Nat.le_trans hB hb,hr⟩
theorem has_get {h:HeldB} {n:Int}:(ixOf n h.sums).isSome=(getL h.trees n).isSome:=by
 rw [Bool.eq_iff_iff];constructor
 ·intro hs;obtain ⟨l,hl⟩:=getL_mem (ixOf_isSome.1 hs);rw [hl];rfl
 ·intro hs;obtain ⟨t,ht⟩:=Option.isSome_iff_exists.1 hs;exact ixOf_isSome.2 (List.mem_map.2 ⟨_,getL_some ht,rfl⟩)
end Go.Proofs.YtaabgmbjmfjdjaaGreatDoor
