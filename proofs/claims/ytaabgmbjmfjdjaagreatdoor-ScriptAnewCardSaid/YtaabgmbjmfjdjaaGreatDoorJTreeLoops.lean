import Derived.Test.YtaabgmbjmfjdjaaGreatDoorJSortSeqEtc
import Derived.Test.YtaabgmbjmfjdjaaGreatDoorJPackedUpEtc
import Derived.IntWalk
import Derived.Test.YtaabgmbjmfjdjaaGreatDoorJCleanUp
import Derived.Test.YtaabgmbjmfjdjaaGreatDoorJTreePlains
namespace Go.Proofs.YtaabgmbjmfjdjaaGreatDoor
open Go Go.RowKit
set_option maxHeartbeats 4000000
set_option maxRecDepth 100000
theorem inB_cut {s d:ByteArray} (h:inB (bl s) (bl d)=true) (hd:d≠⟨#[]⟩):d.size+1≤s.size:=by
 unfold inB at h;rw [Bool.and_eq_true] at h;have h2:=h.2;rw [decide_eq_false (fun e=>hd (bl_inj (by rw [e];rfl))),Bool.false_or,Bool.and_eq_true] at h2;have h3:(bl d++[47])<+:bl s:=List.isPrefixOf_iff_prefix.1 h2.2;have:=h3.length_le;rw [List.length_append,bl_length,bl_length] at this;simpa using this
theorem underL_snoc (l:List FileB) (f:FileB) (d:ByteArray):underL (l++[f]) d=if inB (bl f.path) (bl d)=true then underL l d++[cutP d f] else underL l d:=by
 unfold underL;rw [List.filter_append,List.map_append];by_cases h:inB (bl f.path) (bl d)=true
 ·rw [if_pos h];simp [h]
 ·rw [if_neg h];simp [h]
theorem underL_len (l:List FileB) (d:ByteArray):(underL l d).length≤l.length:=by
 unfold underL;rw [List.length_map];exact List.length_filter_le _ _
theorem cut_path (d:ByteArray) (f:FileB) (hd:d≠⟨#[]⟩) (_:d.size+1≤f.path.size):cutP d f=⟨f.path.extract (d.size+1) f.path.size,f.run,f.text⟩:=by
 unfold cutP;rw [if_neg hd];refine (file_eq _ _).2 ⟨bl_inj ?_,rfl,rfl⟩;rw [blEx,List.take_of_length_le (by rw [List.length_drop,bl_length];omega)];rfl
theorem FOwn.store {w:World} {base:Nat} {v:Value} {l:List FileB} (h:FOwn w base v l) {q o:Nat} (hq:∀g,v.ownBlock=some g→g≠q) (x:Value):FOwn (w.setCell ⟨q,o,none⟩ x) base v l:=by
 refine World.ownsRow.kept h (row:=some q) ⟨rfl,rfl,rfl,(KeepsWalks.setCell w _ x).size,fun k _ hk=>Below.heap_setCell _ _ _ k (fun e=>hk (by rw [e]))⟩ ?_
 cases hv:v.ownBlock with
 |none=>exact .inl rfl
 |some g=>exact .inr (fun e=>hq g hv (by cases e;rfl))
theorem treeUnder_any {E:Nat→Addr} (v:Value) (l:List FileB) (d:ByteArray) (w:World) (hv:FRow w v l) (hl:l.length≤10000) (hS:∀f∈l,SmallF f) (hd:d.size≤10000) (hE:FEnv E w):
  Calls Tryz.prog 172 #[v,.string d] w (TPost E (underT l d) w):=by
 obtain ⟨i0,hi0,hz0,hz1,hz2⟩:=info_parts Tryz.infoFile;have HE:=Lib.hid hE;have HS:=Lib.hid hS;have C:=Lib.hid (treeCheck_any v l w hv hl hS hE);obtain ⟨ao,cap,rfl,h1,h2,H3⟩:=hv;have HM:=Lib.hid H3;clear H3 hE hS;go_enter Tryz.func172,Tryz.ntmps172;go_wp2_with fail;refine C.out.mono ?_;clear C;rintro e w1 ⟨⟨ev,rfl,HI⟩,hb1⟩;by_cases hz:(treeEr l).code=0
 ·have HY:Hid (underT l d=(⟨0,none⟩,underL l d)):=by show _=_;unfold underT;rw [if_neg (by rw [hz];decide)]
  obtain rfl:ev=.nilIface:=IsErr.nil_inv (a:=(treeEr l).at?) (by have:=HI.out;rw [show treeEr l=⟨(treeEr l).code,(treeEr l).at?⟩ from rfl,hz] at this;exact this);clear hz HI;go_wp2_with fail
  go_loopg [7,17] l.length (fun g1 ov vi wr=>∃(k:Nat) (acc:List FileB),vi=.int .i64 k∧k≤l.length∧l.length-k≤g1∧acc.length≤k∧Hid (acc=underL (l.take k) d)∧Hid (FOwn wr w.heap.size ov acc)∧Hid (Below w.heap.size w wr))
  case atStart=>exact ⟨0,[],rfl,Nat.zero_le _,Nat.le_refl _,Nat.le_refl _,by show _=_;rw [List.take_zero];rfl,FOwn.nil _ _,hb1⟩
  case round=>
   clear hb1;obtain ⟨k,acc,rfl,hk,hg,hal,HA,HO,HB⟩:=hrel;obtain ⟨oo,oc,rfl⟩:=HO.out.shape;by_cases hlt:k<l.length
   ·obtain ⟨b,off,rfl,hbl,hcell⟩:=HM.out k hlt;obtain ⟨q0,q1,q2⟩:=hcell k hlt;rw [←HB.out.cell (p:=⟨b,off+k*3,none⟩) hbl] at q0;rw [←HB.out.cell (p:=⟨b,off+k*3+1,none⟩) hbl] at q1;rw [←HB.out.cell (p:=⟨b,off+k*3+2,none⟩) hbl] at q2;have sz:=HS.out l[k] (List.getElem_mem hlt);have HSN:Hid (underL (l.take (k+1)) d=if inB (bl l[k].path) (bl d)=true then acc++[cutP d l[k]] else acc):=by
     show _=_;rw [List.take_succ_eq_append_getElem hlt,underL_snoc,←HA.out]
    clear hcell HA;obtain ⟨f,hf⟩:∃f,l[k]=f:=⟨_,rfl⟩;rw [hf] at q0 q1 q2 sz HSN;clear hf;obtain ⟨pf,hpf⟩:∃pf,wr.heap.size=pf:=⟨_,rfl⟩;obtain ⟨wa,hwa⟩:∃wa,wr.alloc (.cells #[.string f.path,.bool f.run,.string f.text] 170)=wa:=⟨_,rfl⟩;have hal2:Below wr.heap.size wr wa:=by rw [←hwa];exact (Below.refl _ _).alloc (Nat.le_refl _) _
    have hA:wa.heap[pf]? =some (.cells #[.string f.path,.bool f.run,.string f.text] 170 (0,0)):=by rw [←hwa,←hpf];exact heap_alloc_new _ _
    have hba:=HB.out.trans (hal2.mono HB.out.size);have HOa:=Lib.hid (HO.out.ext hal2);have hpn:∀g,(Value.slice oo acc.length oc).ownBlock=some g→g≠pf:=fun g hg2=>by have:=(World.ownsRow.lt HO.out g hg2).2;omega
    have HPN:=Lib.hid hpn;have hpl:w.heap.size≤pf:=by rw [←hpf];exact HB.out.size
    have C:=Lib.hid (pathIn_any f.path d wa (by have:=sz.1;omega) (by omega) (HE.out.ext hba).2);have a0:wa.cell? ⟨pf,0,none⟩=some (.string f.path):=by rw [Lib.cell_of_heap hA];rfl
    have HPF:=Lib.hid hpf;have HWA:=Lib.hid hwa;have HHA:=Lib.hid hA;have HBA:=Lib.hid hba;clear hpf hwa hA hba hal2 hpn HO;go_wp2_with fail;rw [HWA.out,HPF.out];refine C.out.mono ?_;clear C a0 q0 q1 q2;rintro e w2 ⟨rfl,hb2⟩;have hA2:w2.heap[pf]? =some (.cells #[.string f.path,.bool f.run,.string f.text] 170 (0,0)):=(hb2.block pf (Array.getElem?_eq_some_iff.1 HHA.out).1).trans HHA.out;have HB2:=Lib.hid (HBA.out.trans (hb2.mono HBA.out.size));have HO2:=Lib.hid (HOa.out.ext hb2);have a0:w2.cell? ⟨pf,0,none⟩=some (.string f.path):=by rw [Lib.cell_of_heap hA2];rfl
    have a1:w2.cell? ⟨pf,1,none⟩=some (.bool f.run):=by rw [Lib.cell_of_heap hA2];rfl
    have a2:w2.cell? ⟨pf,2,none⟩=some (.string f.text):=by rw [Lib.cell_of_heap hA2];rfl
    have z0:w2.frozen? ⟨pf,0,none⟩=false:=Lib.frozen_of_heap hA2 _;clear hA2 HHA HBA HOa hb2
    cases hin:inB (bl f.path) (bl d) with
    |false=>
     have HS2:Hid (acc=underL (l.take (k+1)) d):=by show _=_;rw [HSN.out,if_neg (by rw [hin];decide)]
     clear hin a0 a1 a2 z0 HSN;go_wp2_with fail;go_roundg (l.length- (k+1))
     case measure=>omega
     case rel=>exact ⟨k+1,acc,by go_num,by omega,Nat.le_refl _,by omega,HS2,HO2,HB2⟩
    |true=>
     by_cases hd0:d=⟨#[]⟩
     ·have HS2:Hid (acc++[f]=underL (l.take (k+1)) d):=by show _=_;rw [HSN.out,if_pos hin];unfold cutP;rw [if_pos hd0]
      have hd1:d.toList.isEmpty=true:=by rw [hd0,toList_bl];rfl
      clear hin HSN hd0;have HOA:=Lib.hid HO2.out;have hww:w2.heap.size≤w2.heap.size:=Nat.le_refl _;go_wp2_with (at_builtin;refine wpList_append_own _ rfl _ _ 124 rfl w.heap.size 170 i0 (.agg #[.string ⟨#[]⟩,.bool false,.string ⟨#[]⟩]) 3 40 Tryz.underlying124 hi0 hz0 hz1 hz2 rfl (by decide) _ _ _ rfl (World.ownsRow.alloc HOA.out _) ⟨w2.heap.size,0,none⟩ 1 1 [.string f.path,.bool f.run,.string f.text] rfl rfl ?c1 ?c2 ?c3 ?c4 ?c5 ?_)
      case c1=>
       intro j u hj
       match j,hj with
       |0,hj=>simp at hj;subst hj;simp [Addr.add]
       |1,hj=>simp at hj;subst hj;simp [Addr.add]
       |2,hj=>simp at hj;subst hj;simp [Addr.add]
      case c2=>intro u hu;simp at hu;rcases hu with rfl|rfl|rfl<;>rfl
      case c3=>rw [maxLen_eq];omega
      case c4=>omega
      case c5=>have:=HB2.out.size;simp at this⊢;omega
      intro v' w9 hown' hgrow _;have hown2:Hid (FOwn w9 w.heap.size v' (acc++[f])):=by
       show World.ownsRow _ _ _ _ _ _ _;simpa using hown'
      have hb9:Below w.heap.size w w9:=(Below.alloc HB2.out (HB2.out).size _).grown hgrow (by have:=HB2.out.size;simp at this⊢;omega) (fun q hq=>(World.ownsRow.lt HOA.out q hq).1);clear hown' hgrow HOA;go_wp2_with fail;go_roundg (l.length- (k+1))
      case measure=>omega
      case rel=>exact ⟨k+1,acc++[f],by go_num,by omega,Nat.le_refl _,by simp;omega,HS2,hown2,hb9⟩
     ·have hcut:=inB_cut hin hd0;have HS2:Hid (acc++[⟨f.path.extract (d.size+1) f.path.size,f.run,f.text⟩]=underL (l.take (k+1)) d):=by show _=_;rw [HSN.out,if_pos hin,cut_path d f hd0 hcut]
      have hd1:d.toList.isEmpty=false:=by
       cases h:d.toList with
       |nil=>exact absurd (bl_inj (by rw [←toList_bl,h];rfl)) hd0
       |cons _ _=>rfl
      have sl:=slice_from f.path ((d.size:Int)+1) (d.size+1) (by omega) (by omega);clear hin HSN hd0;obtain ⟨w3,hw3⟩:∃w3,w2.setCell ⟨pf,0,none⟩ (.string (f.path.extract (d.size+1) f.path.size))=w3:=⟨_,rfl⟩;have HB3:Hid (Below w.heap.size w w3):=by show Below _ _ _;rw [←hw3];exact HB2.out.setCell (p:=⟨pf,0,none⟩) hpl _
      have HO3:Hid (FOwn w3 w.heap.size (.slice oo acc.length oc) acc):=by show FOwn _ _ _ _;rw [←hw3];exact HO2.out.store HPN.out _
      have c0:w3.cell? ⟨pf,0,none⟩=some (.string (f.path.extract (d.size+1) f.path.size)):=by rw [←hw3];exact World.cell?_setCell_same _ _ _ (by rw [a0])
      have c1:w3.cell? ⟨pf,1,none⟩=some (.bool f.run):=by rw [←hw3,World.cell?_setCell_other _ _ _ _ (by simp)];exact a1
      have c2:w3.cell? ⟨pf,2,none⟩=some (.string f.text):=by rw [←hw3,World.cell?_setCell_other _ _ _ _ (by simp)];exact a2
      have HW3:=Lib.hid hw3;clear hw3;go_upto_region 11 with fail
      rw [HW3.out];clear a0 a1 a2 z0 HO2 HB2 sl;have HOA:=Lib.hid HO3.out;have hww:w3.heap.size≤w3.heap.size:=Nat.le_refl _;go_wp2_with (at_builtin;refine wpList_append_own _ rfl _ _ 124 rfl w.heap.size 170 i0 (.agg #[.string ⟨#[]⟩,.bool false,.string ⟨#[]⟩]) 3 40 Tryz.underlying124 hi0 hz0 hz1 hz2 rfl (by decide) _ _ _ rfl (World.ownsRow.alloc HOA.out _) ⟨w3.heap.size,0,none⟩ 1 1 [.string (f.path.extract (d.size+1) f.path.size),.bool f.run,.string f.text] rfl rfl ?c1 ?c2 ?c3 ?c4 ?c5 ?_)
      case c1=>
       intro j u hj
       match j,hj with
       |0,hj=>simp at hj;subst hj;simp [Addr.add]
       |1,hj=>simp at hj;subst hj;simp [Addr.add]
       |2,hj=>simp at hj;subst hj;simp [Addr.add]
      case c2=>intro u hu;simp at hu;rcases hu with rfl|rfl|rfl<;>rfl
      case c3=>rw [maxLen_eq];omega
      case c4=>omega
      case c5=>have:=HB3.out.size;simp at this⊢;omega
      intro v' w9 hown' hgrow _;have hown2:Hid (FOwn w9 w.heap.size v' (acc++[⟨f.path.extract (d.size+1) f.path.size,f.run,f.text⟩])):=by
       show World.ownsRow _ _ _ _ _ _ _;simpa using hown'
      have hb9:Below w.heap.size w w9:=(Below.alloc HB3.out (HB3.out).size _).grown hgrow (by have:=HB3.out.size;simp at this⊢;omega) (fun q hq=>(World.ownsRow.lt HOA.out q hq).1);clear hown' hgrow HOA;go_wp2_with fail;go_roundg (l.length- (k+1))
      case measure=>omega
      case rel=>exact ⟨k+1,acc++[⟨f.path.extract (d.size+1) f.path.size,f.run,f.text⟩],by go_num,by omega,Nat.le_refl _,by simp;omega,HS2,hown2,hb9⟩
   ·obtain rfl:k=l.length:=by omega
    have HX:Hid (underL l d=acc):=by show _=_;rw [HA.out,List.take_length]
    clear HA HM;go_wp2_with fail;go_ret2;rw [HY.out,HX.out];exact ⟨⟨_,_,rfl,.inl ⟨rfl,rfl⟩,HO⟩,HB.out⟩
 ·obtain ⟨t,x,rfl⟩:=IsErr.some_inv HI.out hz;have HY:Hid (underT l d=(treeEr l,[])):=by show _=_;unfold underT;rw [if_pos hz]
  clear hz;go_wp2_with fail;go_ret2;rw [HY.out];exact TPost.none HI hb1
theorem FEnv.clean {E:Nat→Addr} {w:World} (h:FEnv E w):CEnv E w:=⟨h.2,h.1.eShape,h.1.eOut⟩
theorem FEnv.strip {E:Nat→Addr} {w:World} (h:FEnv E w):SEnv E w:=⟨h.clean,h.1.eBound⟩
theorem strip_len (s:List UInt8) (n:Int):(stripT s n).length≤s.length:=by
 by_cases h:stripE s n=0
 ·have hp:partsE s=0:=by
   unfold stripE at h;split at h
   ·assumption
   ·rename_i hne;exact absurd h hne
  have hn:0≤n:=by
   unfold stripE at h;rw [if_pos hp] at h;split at h
   ·cases h
   ·omega
  obtain ⟨k,rfl⟩:∃k:Nat,n=(k:Int):=⟨n.toNat,by omega⟩;have:=congrArg List.length (strip_head hp ((strip_ok_iff hp).1 h));rw [List.length_append] at this;omega
 ·unfold stripT;rw [if_neg h];simp
theorem stripE_le13 (s:List UInt8) (n:Int):stripE s n≤13:=by
 unfold stripE;split
 ·split
  ·omega
  ·split<;>omega
 ·exact partsE_le s
theorem TPost.low {E:Nat→Addr} {r:Er×List FileB} {w w1 w':World} {e:Ending} (h:TPost E r w1 e w') (hb:Below w.heap.size w w1):TPost E r w e w':=by
 obtain ⟨⟨v,ev,he,hI,hO⟩,hb2⟩:=h;exact ⟨⟨v,ev,he,hI,FOwn.low hO.out hb.size⟩,hb.trans (hb2.mono hb.size)⟩
theorem stripIx_some {n:Int} {l:List FileB} {k:Nat} (hk:k<l.length) (h1:stripE (bl l[k].path) n≠0) (h2:∀j,(h:j<l.length)→j<k→stripE (bl l[j].path) n=0):stripIx n l=some k:=by
 unfold stripIx;rw [List.findIdx?_eq_some_iff_getElem];exact ⟨hk,by simpa using h1,fun j hj=>by simpa using h2 j (by omega) hj⟩
theorem stripIx_none {n:Int} {l:List FileB} (h2:∀j,(h:j<l.length)→stripE (bl l[j].path) n=0):stripIx n l=none:=by
 unfold stripIx;rw [List.findIdx?_eq_none_iff];intro f hf;obtain ⟨j,hj,rfl⟩:=List.getElem_of_mem hf;simpa using h2 j hj
theorem treeStrip_any {E:Nat→Addr} (v:Value) (l:List FileB) (n:Int) (w:World) (hv:FRow w v l) (hl:l.length≤10000) (hS:∀f∈l,SmallF f) (hn:(Lit.int .i64 n).wf=true) (hE:FEnv E w):
  Calls Tryz.prog 260 #[v,.int .i64 n] w (TPost E (stripTr l n) w):=by
 obtain ⟨i0,hi0,hz0,hz1,hz2⟩:=info_parts Tryz.infoFile;have HE:=Lib.hid hE;have HS:=Lib.hid hS;have HWF:=Lib.hid hn;have C:=Lib.hid (treeCheck_any v l w hv hl hS hE);obtain ⟨ao,cap,rfl,h1,h2,H3⟩:=hv;have HM:=Lib.hid H3;clear H3 hE hS hn;go_enter Tryz.func260,Tryz.ntmps260;go_wp2_with fail;refine C.out.mono ?_;clear C;rintro e w1 ⟨⟨ev,rfl,HI⟩,hb1⟩;by_cases hz:(treeEr l).code=0
 ·have HY:Hid (stripTr l n=match stripIx n l with
   |some i=>(⟨stripE (bl ((l.getD i ⟨⟨#[]⟩,false,⟨#[]⟩⟩).path)) n,some i⟩,[])
   |none=>sortT (l.map (stripF n))):=by show _=_;unfold stripTr;rw [if_neg (by rw [hz];decide)];cases stripIx n l<;>rfl
  obtain rfl:ev=.nilIface:=IsErr.nil_inv (a:=(treeEr l).at?) (by have:=HI.out;rw [show treeEr l=⟨(treeEr l).code,(treeEr l).at?⟩ from rfl,hz] at this;exact this);clear hz HI;go_wp2_with fail
  go_loopg [7,19] l.length (fun g1 ov vi wr=>∃(k:Nat) (acc:List FileB),vi=.int .i64 k∧k≤l.length∧l.length-k≤g1∧acc.length≤k∧Hid (acc=(l.take k).map (stripF n))∧Hid (∀j,(h:j<l.length)→j<k→stripE (bl l[j].path) n=0)∧Hid (FOwn wr w.heap.size ov acc)∧Hid (Below w.heap.size w wr))
  case atStart=>exact ⟨0,[],rfl,Nat.zero_le _,Nat.le_refl _,Nat.le_refl _,by show _=_;rw [List.take_zero];rfl,(fun j _ h=>absurd h (Nat.not_lt_zero _)),FOwn.nil _ _,hb1⟩
  case round=>
   clear hb1;obtain ⟨k,acc,rfl,hk,hg,hal,HA,HJ,HO,HB⟩:=hrel;obtain ⟨oo,oc,rfl⟩:=HO.out.shape;by_cases hlt:k<l.length
   ·obtain ⟨b,off,rfl,hbl,hcell⟩:=HM.out k hlt;obtain ⟨q0,q1,q2⟩:=hcell k hlt;rw [←HB.out.cell (p:=⟨b,off+k*3,none⟩) hbl] at q0;rw [←HB.out.cell (p:=⟨b,off+k*3+1,none⟩) hbl] at q1;rw [←HB.out.cell (p:=⟨b,off+k*3+2,none⟩) hbl] at q2;have sz:=HS.out l[k] (List.getElem_mem hlt);have HSN:Hid (acc++[stripF n l[k]]=(l.take (k+1)).map (stripF n)):=by
     show _=_;rw [List.take_succ_eq_append_getElem hlt,List.map_append,←HA.out];rfl
    have HX:Hid (stripE (bl l[k].path) n≠0→stripTr l n=(⟨stripE (bl l[k].path) n,some (k:Int)⟩,[])):=fun h=>by
     rw [HY.out,stripIx_some hlt h HJ.out];simp only [List.getD_eq_getElem?_getD,List.getElem?_eq_getElem hlt,Option.getD_some]
    have HJ2:Hid (stripE (bl l[k].path) n=0→∀j,(h:j<l.length)→j<k+1→stripE (bl l[j].path) n=0):=fun h0 j h hj=>by
     by_cases e:j=k
     ·subst e;exact h0
     ·exact HJ.out j h (by omega)
    clear hcell HA HJ;obtain ⟨f,hf⟩:∃f,l[k]=f:=⟨_,rfl⟩;rw [hf] at q0 q1 q2 sz HSN HX HJ2;clear hf;obtain ⟨pf,hpf⟩:∃pf,wr.heap.size=pf:=⟨_,rfl⟩;obtain ⟨wa,hwa⟩:∃wa,wr.alloc (.cells #[.string f.path,.bool f.run,.string f.text] 170)=wa:=⟨_,rfl⟩;have hal2:Below wr.heap.size wr wa:=by rw [←hwa];exact (Below.refl _ _).alloc (Nat.le_refl _) _
    have hA:wa.heap[pf]? =some (.cells #[.string f.path,.bool f.run,.string f.text] 170 (0,0)):=by rw [←hwa,←hpf];exact heap_alloc_new _ _
    have hba:=HB.out.trans (hal2.mono HB.out.size);have HOa:=Lib.hid (HO.out.ext hal2);have hpn:∀g,(Value.slice oo acc.length oc).ownBlock=some g→g≠pf:=fun g hg2=>by have:=(World.ownsRow.lt HO.out g hg2).2;omega
    have HPN:=Lib.hid hpn;have hpl:w.heap.size≤pf:=by rw [←hpf];exact HB.out.size
    have C:=Lib.hid (pathStrip_any f.path n wa (by have:=sz.1;omega) HWF.out (HE.out.ext hba).strip);have a0:wa.cell? ⟨pf,0,none⟩=some (.string f.path):=by rw [Lib.cell_of_heap hA];rfl
    have HPF:=Lib.hid hpf;have HWA:=Lib.hid hwa;have HHA:=Lib.hid hA;have HBA:=Lib.hid hba;clear hpf hwa hA hba hal2 hpn HO;go_wp2_with fail;rw [HWA.out,HPF.out];refine C.out.mono ?_;clear C a0 q0 q1 q2;rintro e w2 ⟨⟨x,rfl,HXX⟩,hb2⟩;have hA2:w2.heap[pf]? =some (.cells #[.string f.path,.bool f.run,.string f.text] 170 (0,0)):=(hb2.block pf (Array.getElem?_eq_some_iff.1 HHA.out).1).trans HHA.out;have HB2:=Lib.hid (HBA.out.trans (hb2.mono HBA.out.size));have HO2:=Lib.hid (HOa.out.ext hb2);have a0:w2.cell? ⟨pf,0,none⟩=some (.string f.path):=by rw [Lib.cell_of_heap hA2];rfl
    have a1:w2.cell? ⟨pf,1,none⟩=some (.bool f.run):=by rw [Lib.cell_of_heap hA2];rfl
    have a2:w2.cell? ⟨pf,2,none⟩=some (.string f.text):=by rw [Lib.cell_of_heap hA2];rfl
    have z0:w2.frozen? ⟨pf,0,none⟩=false:=Lib.frozen_of_heap hA2 _;have hle:=stripE_le13 (bl f.path) n;clear hA2 HHA HBA HOa hb2;obtain ⟨c,hc⟩:∃c,stripE (bl f.path) n=c:=⟨_,rfl⟩;rw [hc] at HX HJ2 hle⊢
    cases c with
    |succ c=>
     have HZ:=Lib.hid (HX.out (by omega));rw [show errV E (c+1)=sentV E c from rfl];clear hc a0 a1 a2 z0 HSN HX HJ2 HO2;go_wp2_with fail;go_ret2;rw [HZ.out];refine TPost.none (?_:Hid _) (HB2.out.alloc HB2.out.size _);show IsErr _ _ _ _;exact IsErr.fault E _ c (by omega) _ _ (by rw [World.cell?_alloc_at _ _ _ _ rfl];rfl) (by rw [World.cell?_alloc_at _ _ _ _ rfl];rfl)
    |zero=>
     have HJ3:=Lib.hid (HJ2.out rfl);have HF:Hid (stripF n f=⟨x,f.run,f.text⟩):=by
      show _=_;refine (file_eq _ _).2 ⟨bl_inj ?_,rfl,rfl⟩;rw [HXX.out];rfl
     have HS2:Hid (acc++[⟨x,f.run,f.text⟩]=(l.take (k+1)).map (stripF n)):=by show _=_;rw [←HSN.out,HF.out]
     rw [show errV E 0=.nilIface from rfl];clear hc HSN HX HJ2 HXX HF;obtain ⟨w3,hw3⟩:∃w3,w2.setCell ⟨pf,0,none⟩ (.string x)=w3:=⟨_,rfl⟩;have HB3:Hid (Below w.heap.size w w3):=by show Below _ _ _;rw [←hw3];exact HB2.out.setCell (p:=⟨pf,0,none⟩) hpl _
     have HO3:Hid (FOwn w3 w.heap.size (.slice oo acc.length oc) acc):=by show FOwn _ _ _ _;rw [←hw3];exact HO2.out.store HPN.out _
     have c0:w3.cell? ⟨pf,0,none⟩=some (.string x):=by rw [←hw3];exact World.cell?_setCell_same _ _ _ (by rw [a0])
     have c1:w3.cell? ⟨pf,1,none⟩=some (.bool f.run):=by rw [←hw3,World.cell?_setCell_other _ _ _ _ (by simp)];exact a1
     have c2:w3.cell? ⟨pf,2,none⟩=some (.string f.text):=by rw [←hw3,World.cell?_setCell_other _ _ _ _ (by simp)];exact a2
     have HW3:=Lib.hid hw3;clear hw3;go_upto_region 12 with fail
     rw [HW3.out];clear a0 a1 a2 z0 HO2 HB2;have HOA:=Lib.hid HO3.out;have hww:w3.heap.size≤w3.heap.size:=Nat.le_refl _;go_wp2_with (at_builtin;refine wpList_append_own _ rfl _ _ 124 rfl w.heap.size 170 i0 (.agg #[.string ⟨#[]⟩,.bool false,.string ⟨#[]⟩]) 3 40 Tryz.underlying124 hi0 hz0 hz1 hz2 rfl (by decide) _ _ _ rfl (World.ownsRow.alloc HOA.out _) ⟨w3.heap.size,0,none⟩ 1 1 [.string x,.bool f.run,.string f.text] rfl rfl ?c1 ?c2 ?c3 ?c4 ?c5 ?_)
     case c1=>
      intro j u hj
      match j,hj with
      |0,hj=>simp at hj;subst hj;simp [Addr.add]
      |1,hj=>simp at hj;subst hj;simp [Addr.add]
      |2,hj=>simp at hj;subst hj;simp [Addr.add]
     case c2=>intro u hu;simp at hu;rcases hu with rfl|rfl|rfl<;>rfl
     case c3=>rw [maxLen_eq];omega
     case c4=>omega
     case c5=>have:=HB3.out.size;simp at this⊢;omega
     intro v' w9 hown' hgrow _;have hown2:Hid (FOwn w9 w.heap.size v' (acc++[⟨x,f.run,f.text⟩])):=by
      show World.ownsRow _ _ _ _ _ _ _;simpa using hown'
     have hb9:Below w.heap.size w w9:=(Below.alloc HB3.out (HB3.out).size _).grown hgrow (by have:=HB3.out.size;simp at this⊢;omega) (fun q hq=>(World.ownsRow.lt HOA.out q hq).1);clear hown' hgrow HOA;go_wp2_with fail;go_roundg (l.length- (k+1))
     case measure=>omega
     case rel=>exact ⟨k+1,acc++[⟨x,f.run,f.text⟩],by go_num,by omega,Nat.le_refl _,by simp;omega,HS2,HJ3,hown2,hb9⟩
   ·obtain rfl:k=l.length:=by omega
    have HX:Hid (stripTr l n=sortT acc):=by
     show _=_;rw [HY.out,stripIx_none (fun j h=>HJ.out j h h),HA.out,List.take_length]
    have hsm:∀g∈acc,SmallF g:=fun g hg2=>by
     rw [HA.out,List.take_length] at hg2;obtain ⟨f,hf,rfl⟩:=List.mem_map.1 hg2;have h1:=HS.out f hf;have h2:=strip_len (bl f.path) n;refine ⟨?_,h1.2⟩;rw [bl_length] at h2;have h3:(stripF n f).path.size=(stripT (bl f.path) n).length:=by rw [←bl_length];rfl
     have:=h1.1;omega
    have C:=Lib.hid (treeSort_any _ acc wr HO.out.row (by omega) hsm (HE.out.ext HB.out));clear HA HM HJ hsm;go_wp2_with fail;refine C.out.mono ?_;rintro e w4 h4;have h5:=TPost.low h4 HB.out;obtain ⟨⟨v4,ev4,rfl,HI4,HO4⟩,hb4⟩:=h5;clear h4 C;go_wp2_with fail;go_ret2;rw [HX.out];exact ⟨⟨_,_,rfl,HI4,HO4⟩,hb4⟩
 ·obtain ⟨t,x,rfl⟩:=IsErr.some_inv HI.out hz;have HY:Hid (stripTr l n=(treeEr l,[])):=by show _=_;unfold stripTr;rw [if_pos hz]
  clear hz;go_wp2_with fail;go_ret2;rw [HY.out];exact TPost.none HI hb1
theorem cleanT_len {s:List UInt8} (h:cleanE s=0):(cleanT s).length≤78:=by
 have key:∀w:List (List UInt8),w.all partB=true→([47].intercalate w:List UInt8).length≤w.length*13:=by
  intro w;induction w with
  |nil=>intro _;simp [List.intercalate]
  |cons x r ih=>
   intro h;rw [List.all_cons,Bool.and_eq_true] at h;have hp:x.length≤12:=by
    have h1:=h.1;unfold partB at h1;simp only [Bool.and_eq_true,decide_eq_true_eq] at h1;exact h1.1.1.1.2
   cases r with
   |nil=>simp [List.intercalate];omega
   |cons y r=>
    have:=ih h.2;rw [join_cons,List.length_append,List.length_cons];simp only [List.length_cons] at this⊢;omega
 obtain ⟨_,_,h3,h4,h5⟩:=cleanE_parts h;rw [h5];have:=key _ h3;omega
theorem joinEr_none {d:ByteArray} {m:List FileB} (h:∀j,(hj:j<m.length)→cleanE (joinS (bl d) (bl m[j].path))=0):joinEr d m=0:=by
 unfold joinEr;have:m.find? (fun f=>decide (cleanE (joinS (bl d) (bl f.path))≠0))=none:=by
  rw [List.find?_eq_none];intro f hf;obtain ⟨j,hj,rfl⟩:=List.getElem_of_mem hf;simpa using h j hj
 rw [this]
theorem joinEr_some {d:ByteArray} {m:List FileB} {k:Nat} (hk:k<m.length) (h1:cleanE (joinS (bl d) (bl m[k].path))≠0) (h:∀j,(hj:j<m.length)→j<k→cleanE (joinS (bl d) (bl m[j].path))=0):joinEr d m=cleanE (joinS (bl d) (bl m[k].path)):=by
 unfold joinEr;have:m.find? (fun f=>decide (cleanE (joinS (bl d) (bl f.path))≠0))=some m[k]:=by
  rw [List.find?_eq_some_iff_getElem];exact ⟨by simpa using h1,k,hk,rfl,fun j hj=>by simpa using h j (by omega) hj⟩
 rw [this]
theorem cleanE_le13 (s:List UInt8):cleanE s≤13:=by
 by_cases h:cleanE s=0
 ·omega
 ·unfold cleanE at h⊢;split
  ·omega
  ·exact cleanW_le _ _
theorem treeGraft_any {E:Nat→Addr} (v u:Value) (l m:List FileB) (d:ByteArray) (w:World) (hv:FArg w v l) (hu:FRow w u m) (hl:l.length≤5000) (hm:m.length≤5000) (hS:∀f∈l,SmallF f) (hSm:∀f∈m,SmallF f) (hSm2:∀f∈m,f.path.size≤9000) (hd:d.size≤9000) (hE:FEnv E w):
  Calls Tryz.prog 170 #[v,.string d,u] w (TPost E (graftT l d m) w):=by
 obtain ⟨i0,hi0,hz0,hz1,hz2⟩:=info_parts Tryz.infoFile;have HE:=Lib.hid hE;have HS:=Lib.hid hS;have HSm:=Lib.hid hSm;have HSm2:=Lib.hid hSm2;have HV:=Lib.hid hv;have HU:=Lib.hid hu;obtain ⟨ao,cap,rfl,h1,h2,_⟩:=hv.1;obtain ⟨bo,cbp,rfl,h3,h4,H3⟩:=hu;have HM:=Lib.hid H3;clear H3 hE hS hSm hSm2 hv;obtain ⟨gb,hgb⟩:∃gb,w.heap.size=gb:=⟨_,rfl⟩;have hB0:Below w.heap.size w (w.alloc (.cells #[.slice ao l.length cap,.slice bo m.length cbp] 124)):=(Below.refl _ w).alloc (Nat.le_refl _) _;have hG0:(w.alloc (.cells #[.slice ao l.length cap,.slice bo m.length cbp] 124)).heap[gb]? =some (.cells #[.slice ao l.length cap,.slice bo m.length cbp] 124 (0,0)):=by rw [←hgb];exact heap_alloc_new w _
 have HB0:=Lib.hid hB0;have HG0:=Lib.hid hG0;have HGB:=Lib.hid hgb;clear hB0 hG0 hgb;go_enter Tryz.func170,Tryz.ntmps170;go_wp2_with fail;rw [HGB.out]
 go_loopg [22] 2 (fun g1 vi wr=>∃k:Nat,vi=.int .i64 k∧k≤2∧2-k≤g1∧Hid (1≤k→(treeEr l).code=0)∧Hid (2≤k→(treeEr m).code=0)∧Hid (Below w.heap.size w wr)∧Hid (wr.heap[gb]? =some (.cells #[.slice ao l.length cap,.slice bo m.length cbp] 124 (0,0))))
 case atStart=>exact ⟨0,rfl,by omega,by omega,fun h=>absurd h (by omega),fun h=>absurd h (by omega),HB0,HG0⟩
 case round=>
  clear HB0 HG0;obtain ⟨k,rfl,hk,hg,HK1,HK2,HB,HG⟩:=hrel;have c0:wr.cell? ⟨gb,0,none⟩=some (.slice ao l.length cap):=by rw [Lib.cell_of_heap HG.out];rfl
  have c1:wr.cell? ⟨gb,1,none⟩=some (.slice bo m.length cbp):=by rw [Lib.cell_of_heap HG.out];rfl
  have hk3:k=0∨k=1∨k=2:=by omega
  rcases hk3 with rfl|rfl|rfl
  ·have C:=Lib.hid (treeCheck_any _ l wr (HV.out.1.ext HB.out) (by omega) HS.out (HE.out.ext HB.out));go_wp2_with fail;refine C.out.mono ?_;clear C;rintro e w1 ⟨⟨ev,rfl,HI⟩,hb1⟩;have HB1:=Lib.hid (HB.out.trans (hb1.mono HB.out.size));have HG1:Hid (w1.heap[gb]? =some (.cells #[.slice ao l.length cap,.slice bo m.length cbp] 124 (0,0))):=(hb1.block gb (Array.getElem?_eq_some_iff.1 HG.out).1).trans HG.out;clear HB HG c0 c1 hb1;by_cases hz:(treeEr l).code=0
   ·have HZ:=Lib.hid hz;obtain rfl:ev=.nilIface:=IsErr.nil_inv (a:=(treeEr l).at?) (by have:=HI.out;rw [show treeEr l=⟨(treeEr l).code,(treeEr l).at?⟩ from rfl,hz] at this;exact this);clear hz HI HK1 HK2;go_wp2_with fail;go_roundg 1
    case measure=>omega
    case rel=>exact ⟨1,by go_num,by omega,Nat.le_refl _,fun _=>HZ.out,fun h=>absurd h (by omega),HB1,HG1⟩
   ·obtain ⟨t,x,rfl⟩:=IsErr.some_inv HI.out hz;have HY:Hid (graftT l d m=(treeEr l,[])):=by show _=_;unfold graftT;rw [if_pos hz]
    clear hz HK1 HK2 HG1;go_wp2_with fail;go_ret2;rw [HY.out];exact TPost.none HI HB1.out
  ·have HZ0:=Lib.hid (HK1.out (by omega));have C:=Lib.hid (treeCheck_any _ m wr (HU.out.ext HB.out) (by omega) HSm.out (HE.out.ext HB.out));go_wp2_with fail;refine C.out.mono ?_;clear C;rintro e w1 ⟨⟨ev,rfl,HI⟩,hb1⟩;have HB1:=Lib.hid (HB.out.trans (hb1.mono HB.out.size));have HG1:Hid (w1.heap[gb]? =some (.cells #[.slice ao l.length cap,.slice bo m.length cbp] 124 (0,0))):=(hb1.block gb (Array.getElem?_eq_some_iff.1 HG.out).1).trans HG.out;clear HB HG c0 c1 hb1;by_cases hz:(treeEr m).code=0
   ·have HZ:=Lib.hid hz;obtain rfl:ev=.nilIface:=IsErr.nil_inv (a:=(treeEr m).at?) (by have:=HI.out;rw [show treeEr m=⟨(treeEr m).code,(treeEr m).at?⟩ from rfl,hz] at this;exact this);clear hz HI HK1 HK2;go_wp2_with fail;go_roundg 0
    case measure=>omega
    case rel=>exact ⟨2,by go_num,by omega,Nat.le_refl _,fun _=>HZ0.out,fun _=>HZ.out,HB1,HG1⟩
   ·obtain ⟨t,x,rfl⟩:=IsErr.some_inv HI.out hz;have HY:Hid (graftT l d m=(treeEr m,[])):=by show _=_;unfold graftT;rw [if_neg (by rw [HZ0.out];decide),if_pos hz]
    clear hz HK1 HK2 HG1;go_wp2_with fail;go_ret2;rw [HY.out];exact TPost.none HI HB1.out
  ·have HZ0:=Lib.hid (HK1.out (by omega));have HZ1:=Lib.hid (HK2.out (by omega));have C:=Lib.hid (pathCheck_any d wr (by omega) (HE.out.ext HB.out).2);clear HK1 HK2 HG c0 c1;go_wp2_with fail;refine C.out.mono ?_;clear C;rintro e w1 ⟨rfl,hb1⟩;have HB1:=Lib.hid (HB.out.trans (hb1.mono HB.out.size));clear hb1 HB;have hle:=partsE_le (bl d);obtain ⟨c,hc⟩:∃c,partsE (bl d)=c:=⟨_,rfl⟩;rw [hc] at hle⊢;have HC:=Lib.hid hc;clear hc
   cases c with
   |succ c=>
    have HY:Hid (graftT l d m=(⟨c+1,none⟩,[])):=by show _=_;unfold graftT;rw [if_neg (by rw [HZ0.out];decide),if_neg (by rw [HZ1.out];decide),if_pos (by rw [HC.out];omega),HC.out]
    rw [show errV E (c+1)=sentV E c from rfl];go_wp2_with fail;go_ret2;rw [HY.out];exact TPost.none (IsErr.sent (by omega)) HB1.out
   |zero=>
    rw [show errV E 0=.nilIface from rfl];have HY:Hid (graftT l d m=if joinEr d m≠0 then (⟨joinEr d m,none⟩,[]) else bareE (sortT (l++m.map (joinF d)))):=by show _=_;unfold graftT;rw [if_neg (by rw [HZ0.out];decide),if_neg (by rw [HZ1.out];decide),if_neg (by rw [HC.out];omega)]
    have C:=Lib.hid (cloneFiles_any _ l w1 (by omega) (HV.out.ext HB1.out));go_wp2_with fail;refine C.out.mono ?_;clear C;rintro e w2 ⟨⟨ov2,rfl,HO2⟩,hb2⟩;have HO3:=Lib.hid (FOwn.low HO2.out HB1.out.size);have HB2:=Lib.hid (HB1.out.trans (hb2.mono HB1.out.size));clear HO2 HB1 hb2;go_wp2_with fail
    go_loopg [12,41] m.length (fun g1 ov vi wr=>∃(k:Nat) (acc:List FileB),vi=.int .i64 k∧k≤m.length∧m.length-k≤g1∧acc.length≤l.length+k∧Hid (acc=l++(m.take k).map (joinF d))∧Hid (∀j,(hj:j<m.length)→j<k→cleanE (joinS (bl d) (bl m[j].path))=0)∧Hid (FOwn wr w.heap.size ov acc)∧Hid (Below w.heap.size w wr))
    case atStart=>exact ⟨0,l,rfl,Nat.zero_le _,Nat.le_refl _,Nat.le_refl _,by show _=_;rw [List.take_zero];simp,(fun j _ h=>absurd h (Nat.not_lt_zero _)),HO3,HB2⟩
    case round=>
     clear HB2 HO3;obtain ⟨k,acc,rfl,hk,hg,hal,HA,HJ,HO,HB⟩:=hrel;obtain ⟨oo,oc,rfl⟩:=HO.out.shape;by_cases hlt:k<m.length
     ·obtain ⟨b,off,rfl,hbl,hcell⟩:=HM.out k hlt;obtain ⟨q0,q1,q2⟩:=hcell k hlt;rw [←HB.out.cell (p:=⟨b,off+k*3,none⟩) hbl] at q0;rw [←HB.out.cell (p:=⟨b,off+k*3+1,none⟩) hbl] at q1;rw [←HB.out.cell (p:=⟨b,off+k*3+2,none⟩) hbl] at q2;have sz:=HSm2.out m[k] (List.getElem_mem hlt);have HSN:Hid (acc++[joinF d m[k]]=l++(m.take (k+1)).map (joinF d)):=by
       show _=_;rw [List.take_succ_eq_append_getElem hlt,List.map_append,←List.append_assoc,←HA.out];rfl
      have HX:Hid (cleanE (joinS (bl d) (bl m[k].path))≠0→graftT l d m=(⟨cleanE (joinS (bl d) (bl m[k].path)),none⟩,[])):=fun h=>by
       rw [HY.out,joinEr_some hlt h HJ.out,if_pos h]
      have HJ2:Hid (cleanE (joinS (bl d) (bl m[k].path))=0→∀j,(hj:j<m.length)→j<k+1→cleanE (joinS (bl d) (bl m[j].path))=0):=fun h0 j h hj=>by
       by_cases e:j=k
       ·subst e;exact h0
       ·exact HJ.out j h (by omega)
      clear hcell HA HJ;obtain ⟨f,hf⟩:∃f,m[k]=f:=⟨_,rfl⟩;rw [hf] at q0 q1 q2 sz HSN HX HJ2;clear hf;obtain ⟨pf,hpf⟩:∃pf,wr.heap.size=pf:=⟨_,rfl⟩;obtain ⟨wa,hwa⟩:∃wa,wr.alloc (.cells #[.string f.path,.bool f.run,.string f.text] 170)=wa:=⟨_,rfl⟩;have hal2:Below wr.heap.size wr wa:=by rw [←hwa];exact (Below.refl _ _).alloc (Nat.le_refl _) _
      have hA:wa.heap[pf]? =some (.cells #[.string f.path,.bool f.run,.string f.text] 170 (0,0)):=by rw [←hwa,←hpf];exact heap_alloc_new _ _
      have hba:=HB.out.trans (hal2.mono HB.out.size);have HOa:=Lib.hid (HO.out.ext hal2);have hpn:∀g,(Value.slice oo acc.length oc).ownBlock=some g→g≠pf:=fun g hg2=>by have:=(World.ownsRow.lt HO.out g hg2).2;omega
      have HPN:=Lib.hid hpn;have hpl:w.heap.size≤pf:=by rw [←hpf];exact HB.out.size
      have C:=Lib.hid (pathJoin_any d f.path wa (by omega) (by omega) (HE.out.ext hba).clean);have a0:wa.cell? ⟨pf,0,none⟩=some (.string f.path):=by rw [Lib.cell_of_heap hA];rfl
      have HPF:=Lib.hid hpf;have HWA:=Lib.hid hwa;have HHA:=Lib.hid hA;have HBA:=Lib.hid hba;clear hpf hwa hA hba hal2 hpn HO;go_wp2_with fail;rw [HWA.out,HPF.out];refine C.out.mono ?_;clear C a0 q0 q1 q2;rintro e w2 ⟨⟨x,rfl,HXX⟩,hb2⟩;have hA2:w2.heap[pf]? =some (.cells #[.string f.path,.bool f.run,.string f.text] 170 (0,0)):=(hb2.block pf (Array.getElem?_eq_some_iff.1 HHA.out).1).trans HHA.out;have HB2:=Lib.hid (HBA.out.trans (hb2.mono HBA.out.size));have HO2:=Lib.hid (HOa.out.ext hb2);have a0:w2.cell? ⟨pf,0,none⟩=some (.string f.path):=by rw [Lib.cell_of_heap hA2];rfl
      have a1:w2.cell? ⟨pf,1,none⟩=some (.bool f.run):=by rw [Lib.cell_of_heap hA2];rfl
      have a2:w2.cell? ⟨pf,2,none⟩=some (.string f.text):=by rw [Lib.cell_of_heap hA2];rfl
      have z0:w2.frozen? ⟨pf,0,none⟩=false:=Lib.frozen_of_heap hA2 _;have hle2:=cleanE_le13 (joinS (bl d) (bl f.path));clear hA2 HHA HBA HOa hb2;obtain ⟨c,hc⟩:∃c,cleanE (joinS (bl d) (bl f.path))=c:=⟨_,rfl⟩;rw [hc] at HX HJ2 hle2⊢
      cases c with
      |succ c=>
       have HZ:=Lib.hid (HX.out (by omega));rw [show errV E (c+1)=sentV E c from rfl];clear hc a0 a1 a2 z0 HSN HX HJ2 HO2;go_wp2_with fail;go_ret2;rw [HZ.out];exact TPost.none (IsErr.sent (by omega)) HB2.out
      |zero=>
       have HJ3:=Lib.hid (HJ2.out rfl);have HF:Hid (joinF d f=⟨x,f.run,f.text⟩):=by
        show _=_;refine (file_eq _ _).2 ⟨bl_inj ?_,rfl,rfl⟩;rw [HXX.out];rfl
       have HS2:Hid (acc++[⟨x,f.run,f.text⟩]=l++(m.take (k+1)).map (joinF d)):=by show _=_;rw [←HSN.out,HF.out]
       rw [show errV E 0=.nilIface from rfl];clear hc HSN HX HJ2 HXX HF;obtain ⟨w3,hw3⟩:∃w3,w2.setCell ⟨pf,0,none⟩ (.string x)=w3:=⟨_,rfl⟩;have HB3:Hid (Below w.heap.size w w3):=by show Below _ _ _;rw [←hw3];exact HB2.out.setCell (p:=⟨pf,0,none⟩) hpl _
       have HO3:Hid (FOwn w3 w.heap.size (.slice oo acc.length oc) acc):=by show FOwn _ _ _ _;rw [←hw3];exact HO2.out.store HPN.out _
       have c0:w3.cell? ⟨pf,0,none⟩=some (.string x):=by rw [←hw3];exact World.cell?_setCell_same _ _ _ (by rw [a0])
       have c1:w3.cell? ⟨pf,1,none⟩=some (.bool f.run):=by rw [←hw3,World.cell?_setCell_other _ _ _ _ (by simp)];exact a1
       have c2:w3.cell? ⟨pf,2,none⟩=some (.string f.text):=by rw [←hw3,World.cell?_setCell_other _ _ _ _ (by simp)];exact a2
       have HW3:=Lib.hid hw3;clear hw3;go_upto_region 19 with fail
       rw [HW3.out];clear a0 a1 a2 z0 HO2 HB2;have HOA:=Lib.hid HO3.out;have hww:w3.heap.size≤w3.heap.size:=Nat.le_refl _;go_wp2_with (at_builtin;refine wpList_append_own _ rfl _ _ 124 rfl w.heap.size 170 i0 (.agg #[.string ⟨#[]⟩,.bool false,.string ⟨#[]⟩]) 3 40 Tryz.underlying124 hi0 hz0 hz1 hz2 rfl (by decide) _ _ _ rfl (World.ownsRow.alloc HOA.out _) ⟨w3.heap.size,0,none⟩ 1 1 [.string x,.bool f.run,.string f.text] rfl rfl ?c1 ?c2 ?c3 ?c4 ?c5 ?_)
       case c1=>
        intro j u hj
        match j,hj with
        |0,hj=>simp at hj;subst hj;simp [Addr.add]
        |1,hj=>simp at hj;subst hj;simp [Addr.add]
        |2,hj=>simp at hj;subst hj;simp [Addr.add]
       case c2=>intro u hu;simp at hu;rcases hu with rfl|rfl|rfl<;>rfl
       case c3=>rw [maxLen_eq];omega
       case c4=>omega
       case c5=>have:=HB3.out.size;simp at this⊢;omega
       intro v' w9 hown' hgrow _;have hown2:Hid (FOwn w9 w.heap.size v' (acc++[⟨x,f.run,f.text⟩])):=by
        show World.ownsRow _ _ _ _ _ _ _;simpa using hown'
       have hb9:Below w.heap.size w w9:=(Below.alloc HB3.out (HB3.out).size _).grown hgrow (by have:=HB3.out.size;simp at this⊢;omega) (fun q hq=>(World.ownsRow.lt HOA.out q hq).1);clear hown' hgrow HOA;go_wp2_with fail;go_roundg (m.length- (k+1))
       case measure=>omega
       case rel=>exact ⟨k+1,acc++[⟨x,f.run,f.text⟩],by go_num,by omega,Nat.le_refl _,by simp;omega,HS2,HJ3,hown2,hb9⟩
     ·obtain rfl:k=m.length:=by omega
      have HX:Hid (graftT l d m=bareE (sortT acc)):=by
       show _=_;rw [HY.out,joinEr_none (fun j h=>HJ.out j h h),if_neg (by simp),HA.out,List.take_length]
      have hsm:∀g∈acc,SmallF g:=fun g hg2=>by
       rw [HA.out,List.take_length] at hg2;rcases List.mem_append.1 hg2 with h|h
       ·exact HS.out g h
       ·obtain ⟨f,hf,rfl⟩:=List.mem_map.1 h;obtain ⟨j,hj,rfl⟩:=List.getElem_of_mem hf;have h0:=HJ.out j hj hj;have h2:=cleanT_len h0;refine ⟨?_,(HSm.out _ hf).2⟩;have h3:(joinF d m[j]).path.size=(cleanT (joinS (bl d) (bl m[j].path))).length:=by rw [←bl_length];rfl
        omega
      have C:=Lib.hid (treeSort_any _ acc wr HO.out.row (by omega) hsm (HE.out.ext HB.out));clear HA HM HJ hsm;go_wp2_with fail;refine C.out.mono ?_;rintro e w4 h4;have h5:=TPost.low h4 HB.out;obtain ⟨⟨v4,ev4,rfl,HI4,HO4⟩,hb4⟩:=h5;have C2:=Lib.hid (treeBare_any _ _ w4 HI4.out);clear h4 C;go_wp2_with fail;refine C2.out.mono ?_;rintro e w5 ⟨⟨u5,rfl,HU5⟩,rfl⟩;go_wp2_with fail;go_ret2;rw [HX.out];exact ⟨⟨_,_,rfl,HU5,HO4⟩,hb4⟩
end Go.Proofs.YtaabgmbjmfjdjaaGreatDoor
