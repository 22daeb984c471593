import Derived.Test.YtaabgmbjmfjdjaaGreatDoorJPackedUpEtc
import Derived.Test.YtaabgmbjmfjdjaaGreatDoorJSummed
import Derived.Test.YtaabgmbjmfjdjaaGreatDoorJRowedEtc
namespace Go.Proofs.YtaabgmbjmfjdjaaGreatDoor
open Go Go.RowKit
set_option maxHeartbeats 4000000
set_option maxRecDepth 100000
def REnv (E:Nat→Addr) (w:World):Prop:=KEnv E w∧AtoiEnv w
theorem REnv.ext {E:Nat→Addr} {w w':World} (h:REnv E w) (hb:Below w.heap.size w w'):REnv E w':=⟨h.1.ext hb,h.2.ext hb⟩
def PTold (o:Option (FileB×List UInt8)) (f:FileB) (r:ByteArray) (ok:Bool):Prop:=(o=some (f,bl r)∧ok=true)∨(o=none∧ok=false)
def POnePost (s:ByteArray) (w:World) (e:Ending) (w':World):Prop:=
 (∃(f:FileB) (r:ByteArray) (ok:Bool),e=.returned (.tuple #[.agg #[.string f.path,.bool f.run,.string f.text],.string r,.bool ok])∧Hid (PTold (pieceL (bl s)) f r ok))∧Below w.heap.size w w'
theorem POnePost.no {s:ByteArray} {w w':World} (h:pieceL (bl s)=none) (hb:Below w.heap.size w w'):POnePost s w (.returned (.tuple #[.agg #[.string ⟨#[]⟩,.bool false,.string ⟨#[]⟩],.string ⟨#[]⟩,.bool false])) w':=
 ⟨⟨⟨⟨#[]⟩,false,⟨#[]⟩⟩,_,_,rfl,.inr ⟨h,rfl⟩⟩,hb⟩
theorem piece_no1 {l a b:List UInt8} (h:Lib.cut l [10]=(a,b,false)):pieceL l=none:=by unfold pieceL;rw [h];simp
theorem piece_no2 {l a b:List UInt8} (h:Lib.cut l [10]=(a,b,true)) (h2:headL a=none):pieceL l=none:=by unfold pieceL;rw [h];simp only [if_true];rw [h2];rfl
theorem piece_no3 {l a b p:List UInt8} {r:Bool} {n:Nat} (h:Lib.cut l [10]=(a,b,true)) (h2:headL a=some (p,r,n)) (h3:b[n]?≠some 10):pieceL l=none:=by
 unfold pieceL;rw [h];simp only [if_true];rw [h2];unfold bodyL;simp only;rw [if_neg h3]
theorem piece_yes {l a b p:List UInt8} {r:Bool} {n:Nat} (h:Lib.cut l [10]=(a,b,true)) (h2:headL a=some (p,r,n)) (h3:b[n]? =some 10):pieceL l=some (mkF p r (b.take n),b.drop (n+1)):=by
 unfold pieceL;rw [h];simp only [if_true];rw [h2];unfold bodyL;simp only;rw [if_pos h3]
theorem head_len {a:List UInt8} (h:(cutL 32 a).length≠3):headL a=none:=by
 unfold headL headW;split
 ·rename_i p m d e;rw [e] at h;exact absurd rfl h
 ·rfl
theorem head_mode {a p m d:List UInt8} (h:cutL 32 a=[p,m,d]) (h1:m≠[102]) (h2:m≠[120]):headL a=none:=by
 unfold headL headW;rw [h];simp only;rw [if_neg (fun e=>e.elim h1 h2)]
theorem head_num {a p m d:List UInt8} (h:cutL 32 a=[p,m,d]) (hd:numOf d 6=none):headL a=none:=by
 unfold headL headW;rw [h];simp only;rw [hd];simp
theorem head_yes {a p m d:List UInt8} {n:Nat} (h:cutL 32 a=[p,m,d]) (h1:m=[102]∨m=[120]) (hd:numOf d 6=some n):headL a=some (p,m== [120],n):=by
 unfold headL headW;rw [h];simp only;rw [if_pos h1,hd];rfl
theorem num_six {l:List UInt8} {n:Nat} (h:numOf l 6=some n):n<1000000:=by
 obtain ⟨h1,h2⟩:=numOf_some h;have h3:=valD_lt (Lib.decDigits n) 0 (decDigits_isD n);rw [valD_dec,←h1] at h3;have h4:10 ^ l.length≤10 ^ 6:=Nat.pow_le_pow_right (by decide) h2;omega
theorem bl_at (s:ByteArray) (q:Nat) (h:q<s.size):(bl s)[q]? =some s[q]:=by rw [List.getElem?_eq_getElem (by rw [bl_length];exact h)];rfl
theorem file_store {w:World} {g gw:Nat} {a b c:Value} (h:w.heap[g]? =some (.cells #[a,b,c] 170 (0,0))) (x y z:Value) (hg:gw≤g):
  (((w.setCell ⟨g,0,none⟩ x).setCell ⟨g,1,none⟩ y).setCell ⟨g,2,none⟩ z).cell? ⟨g,0,none⟩=some x∧(((w.setCell ⟨g,0,none⟩ x).setCell ⟨g,1,none⟩ y).setCell ⟨g,2,none⟩ z).cell? ⟨g,1,none⟩=some y∧
   (((w.setCell ⟨g,0,none⟩ x).setCell ⟨g,1,none⟩ y).setCell ⟨g,2,none⟩ z).cell? ⟨g,2,none⟩=some z∧Below gw w (((w.setCell ⟨g,0,none⟩ x).setCell ⟨g,1,none⟩ y).setCell ⟨g,2,none⟩ z):=by
 have hb:(((w.setCell ⟨g,0,none⟩ x).setCell ⟨g,1,none⟩ y).setCell ⟨g,2,none⟩ z).heap[g]? =some (.cells #[x,y,z] 170 (0,0)):=by
  simp [World.setCell,Array.getElem?_modify,h]
 refine ⟨by rw [Lib.cell_of_heap hb];rfl,by rw [Lib.cell_of_heap hb];rfl,by rw [Lib.cell_of_heap hb];rfl,?_⟩;exact (((Below.refl gw w).setCell (p:=⟨g,0,none⟩) hg x).setCell (p:=⟨g,1,none⟩) hg y).setCell (p:=⟨g,2,none⟩) hg z
theorem file_ready {w:World} {g:Nat} {a b c:Value} (h:w.heap[g]? =some (.cells #[a,b,c] 170 (0,0))):
  w.frozen? ⟨g,0,none⟩=false∧w.frozen? ⟨g,1,none⟩=false∧w.frozen? ⟨g,2,none⟩=false∧w.cell? ⟨g,0,none⟩=some a∧w.cell? ⟨g,1,none⟩=some b∧w.cell? ⟨g,2,none⟩=some c:=
 ⟨Lib.frozen_of_heap h 0,Lib.frozen_of_heap h 1,Lib.frozen_of_heap h 2,by rw [Lib.cell_of_heap h];rfl,by rw [Lib.cell_of_heap h];rfl,by rw [Lib.cell_of_heap h];rfl⟩
theorem packOne_any {E:Nat→Addr} (s:ByteArray) (w:World) (hs:s.size≤1000000) (hE:REnv E w):
  Calls Tryz.prog 211 #[.string s] w (POnePost s w):=by
 obtain ⟨g,hg⟩:∃g,w.heap.size=g:=⟨_,rfl⟩;obtain ⟨wg,hwg⟩:∃wg,w.alloc (.cells #[.string ⟨#[]⟩,.bool false,.string ⟨#[]⟩] 170)=wg:=⟨_,rfl⟩;have hal:Below w.heap.size w wg:=by rw [←hwg];exact (Below.refl _ _).alloc (Nat.le_refl _) _
 have hA:wg.heap[g]? =some (.cells #[.string ⟨#[]⟩,.bool false,.string ⟨#[]⟩] 170 (0,0)):=by rw [←hwg,←hg];exact heap_alloc_new _ _
 have HGB:=Lib.hid hA;have hgl:g<wg.heap.size:=(Array.getElem?_eq_some_iff.1 hA).1;obtain ⟨B,hB⟩:∃B,wg.heap.size=B:=⟨_,rfl⟩;have hBw:B≤wg.heap.size:=Nat.le_of_eq hB.symm;have hwB:w.heap.size≤B:=by rw [←hB];exact hal.size
 have hgB:g<B:=by rw [←hB];exact hgl
 have hgw:w.heap.size≤g:=Nat.le_of_eq hg;have HBW:=Lib.hid hal;have HWA:=Lib.hid hwg;have HPA:=Lib.hid hg;have HE:=Lib.hid (hE.ext hal);have C:=Lib.hid (strCut_any s ⟨#[10]⟩ wg (by omega) HE.out.1.1.2.max);clear hal hA hB hwg hg hgl hE;go_enter Tryz.func211,Tryz.ntmps211;go_wp2_with fail;rw [HWA.out,HPA.out];refine C.out.mono ?_;clear C;rintro e w1 ⟨⟨d,rest,c,rfl,HC,hd,hr⟩,hbx⟩;have hb1:Below B wg w1:=hbx.mono hBw;have C:=Lib.hid (split_any d 32 w1 (by omega) ((HE.out.ext hbx).1.1.2.max));have HE1:=Lib.hid (HE.out.ext hbx);clear HE hbx;go_wp2_with fail;refine C.out.mono ?_;clear C;rintro e w2 ⟨⟨zs,n,rfl,HZ,hn,hl,HS,HA⟩,hbx⟩;have hb2:Below B wg w2:=hb1.trans (hbx.mono (Nat.le_trans hBw hb1.size));have HE2:=Lib.hid (HE1.out.ext hbx);obtain ⟨b,hb⟩:∃b,w1.heap.size=b:=⟨_,rfl⟩;rw [hb] at HA⊢;clear HE1 hb hbx
 cases c with
 |false=>
  have H:=Lib.hid (piece_no1 HC.out);clear HC HZ HS HA;have hg0:w2.heap[g]? =some (.cells #[.string ⟨#[]⟩,.bool false,.string ⟨#[]⟩] 170 (0,0)):=(hb2.block g hgB).trans HGB.out;obtain ⟨f0,f1,f2,e0,e1,e2⟩:=file_ready hg0;obtain ⟨s0,s1,s2,s3⟩:=file_store hg0 (.string ⟨#[]⟩) (.bool false) (.string ⟨#[]⟩) hgw;have S0:=Lib.hid s0;have S1:=Lib.hid s1;have S2:=Lib.hid s2;have HBF:=Lib.hid ((HBW.out.trans (hb2.mono hwB)).trans s3);clear hg0 s0 s1 s2 s3;go_wp2_with fail;exact bodyPost_ret (v:= .tuple #[.agg #[.string ⟨#[]⟩,.bool false,.string ⟨#[]⟩],.string ⟨#[]⟩,.bool false]) (by simp [results,Tryz.results211,go_sem,S0.out,S1.out,S2.out]) rfl (POnePost.no H.out HBF.out)
 |true=>
  by_cases h3:n=3
  ·subst h3;obtain ⟨z0,z1,z2,rfl⟩:∃z0 z1 z2,zs=[z0,z1,z2]:=by
    match zs,hn with
    | [a,b,c],_=>exact ⟨a,b,c,rfl⟩
   have q0:w2.cell? ⟨b,0,none⟩=some (.string z0):=HA.out.2 0 (by simp);have q1:w2.cell? ⟨b,1,none⟩=some (.string z1):=HA.out.2 1 (by simp);have q2:w2.cell? ⟨b,2,none⟩=some (.string z2):=HA.out.2 2 (by simp);have hbl:=HA.out.1;have sz2:z2.size≤d.size:=HS.out z2 (by simp);have HZ2:Hid (cutL 32 (bl d)=[bl z0,bl z1,bl z2]):=HZ.out.symm;clear HZ HA HS hn;obtain ⟨X1,hF⟩:∃X1:Bool,(z1.toList== [102])=X1:=⟨_,rfl⟩;obtain ⟨X,hX⟩:∃X:Bool,(z1.toList== [120])=X:=⟨_,rfl⟩;have HM:Hid ((X1=false∧X=false∧headL (bl d)=none)∨((X1=true∨X=true)∧(∀n,numOf (bl z2) 6=some n→headL (bl d)=some (bl z0,X,n)))):=by
    show _∨_;have e1:(bl z1== [120])=X:=by rw [←hX,Lib.toList_data];rfl
    have e0:(bl z1== [102])=X1:=by rw [←hF,Lib.toList_data];rfl
    by_cases h:X1=true∨X=true
    ·have hm:bl z1=[102]∨bl z1=[120]:=by
      rcases h with h|h
      ·rw [h] at e0;exact .inl (beq_iff_eq.1 e0)
      ·rw [h] at e1;exact .inr (beq_iff_eq.1 e1)
     exact .inr ⟨h,fun n hn=>by rw [head_yes HZ2.out hm hn,e1]⟩
    ·have h1:X1=false:=by cases X1;rfl;exact absurd (Or.inl rfl) h
     have h2:X=false:=by cases X;rfl;exact absurd (Or.inr rfl) h
     rw [h1] at e0;rw [h2] at e1;exact .inl ⟨h1,h2,head_mode HZ2.out (beq_eq_false_iff_ne.1 e0) (beq_eq_false_iff_ne.1 e1)⟩
   have HNN:=Lib.hid (fun h=>head_num (a:=bl d) HZ2.out h);have C:=Lib.hid (sumNumber_any z2 6 (by decide) w2 (by omega) HE2.out.2 HE2.out.1.2);clear HZ2;by_cases hFX:X1=false∧X=false
   ·obtain ⟨rfl,rfl⟩:=hFX;have H:Hid (pieceL (bl s)=none):=by
     rcases HM.out with h|h
     ·exact piece_no2 HC.out h.2.2
     ·rcases h.1 with h|h<;>cases h
    clear HM C;have hg0:w2.heap[g]? =some (.cells #[.string ⟨#[]⟩,.bool false,.string ⟨#[]⟩] 170 (0,0)):=(hb2.block g hgB).trans HGB.out;obtain ⟨f0,f1,f2,e0,e1,e2⟩:=file_ready hg0;obtain ⟨s0,s1,s2,s3⟩:=file_store hg0 (.string ⟨#[]⟩) (.bool false) (.string ⟨#[]⟩) hgw;have S0:=Lib.hid s0;have S1:=Lib.hid s1;have S2:=Lib.hid s2;have HBF:=Lib.hid ((HBW.out.trans (hb2.mono hwB)).trans s3);clear hg0 s0 s1 s2 s3;go_wp2_with fail;exact bodyPost_ret (v:= .tuple #[.agg #[.string ⟨#[]⟩,.bool false,.string ⟨#[]⟩],.string ⟨#[]⟩,.bool false]) (by simp [results,Tryz.results211,go_sem,S0.out,S1.out,S2.out]) rfl (POnePost.no H.out HBF.out)
   ·have HMM:Hid (∀n,numOf (bl z2) 6=some n→headL (bl d)=some (bl z0,X,n)):=by
     rcases HM.out with h|h
     ·exact absurd ⟨h.1,h.2.1⟩ hFX
     ·exact h.2
    have hmm:X1=true∨(X1=false∧X=true):=by
     cases X1
     ·cases X
      ·exact absurd ⟨rfl,rfl⟩ hFX
      ·exact .inr ⟨rfl,rfl⟩
     ·exact .inl rfl
    obtain ⟨Y,hY⟩:∃Y:Bool,Y=X:=⟨_,rfl⟩;rw [←hY] at HMM;have HY:=Lib.hid hY;clear HM hFX hY;rcases hmm with rfl|⟨rfl,rfl⟩
    all_goals
     go_wp2_with fail;refine C.out.mono ?_;clear C;rintro e w3 ⟨v,ok,rfl,HN,hbx⟩;have p0:=(hbx.cell (p:=⟨b,0,none⟩) hbl).trans q0;have p1:=(hbx.cell (p:=⟨b,1,none⟩) hbl).trans q1;have hb3:Below B wg w3:=hb2.trans (hbx.mono (Nat.le_trans hBw hb2.size));clear q0 q1 q2 hbx hb2 HE2;rcases HN.out with ⟨m,hm,rfl,rfl⟩|⟨hm,rfl⟩
     ·have hm6:m<1000000:=num_six hm;have HH:=Lib.hid (HMM.out m hm);clear HN HMM HNN hm;have hrl:(bl rest).length=rest.size:=bl_length rest;by_cases hlen:m<rest.size
      ·have i1:=index_nat rest (m:Int) m hlen rfl;have HTW:=Lib.hid (bl_at rest m hlen);have t1:=slice_to rest (m:Int) m (by omega) rfl;have t2:=slice_from rest ((m:Int)+1) (m+1) (by omega) (by omega);have hlen2:¬(rest.size:Int)<(m:Int)+1:=by omega
       generalize hA:rest[m]'hlen=A at i1 HTW;clear hA;by_cases c1:A=10
       ·have q10:((A.toNat:Int) != 10)=false:=by rw [c1];rfl
        have HPC:Hid (pieceL (bl s)=some (⟨z0,Y,rest.extract 0 m⟩,bl (rest.extract (m+1) rest.size))):=by
         show _=_;rw [piece_yes HC.out HH.out (by rw [HTW.out,c1]),←mkF_bl z0 (rest.extract 0 m),bl_extract,bl_extract,List.drop_zero,Nat.sub_zero,List.take_of_length_le (l:=(bl rest).drop (m+1)) (by rw [List.length_drop];omega)]
        generalize rest.extract 0 m=t at t1 HPC;generalize rest.extract (m+1) rest.size=u at t2 HPC;clear HC HH HTW c1;have hg0:w3.heap[g]? =some (.cells #[.string ⟨#[]⟩,.bool false,.string ⟨#[]⟩] 170 (0,0)):=(hb3.block g hgB).trans HGB.out;obtain ⟨f0,f1,f2,e0,e1,e2⟩:=file_ready hg0;have HG0:=Lib.hid hg0;clear hg0;rw [HY.out] at HPC;clear HY;go_wp2_with fail;go_region
        all_goals
         obtain ⟨s0,s1,s2,s3⟩:=file_store HG0.out (.string z0) (.bool _) (.string t) hgw;have S0:=Lib.hid s0;have S1:=Lib.hid s1;have S2:=Lib.hid s2;have HBF:=Lib.hid ((HBW.out.trans (hb3.mono hwB)).trans s3).drew;clear s0 s1 s2 s3;go_wp2_with fail;exact bodyPost_ret (v:= .tuple #[.agg #[.string z0,.bool _,.string t],.string u,.bool true]) (by simp [results,Tryz.results211,go_sem,S0.out,S1.out,S2.out]) rfl ⟨⟨⟨z0,_,t⟩,u,true,rfl,.inl ⟨HPC.out,rfl⟩⟩,HBF.out⟩
       ·have q10:((A.toNat:Int) != 10)=true:=by
         rw [bne_iff_ne];intro h;exact c1 (UInt8.toNat_inj.1 (by have:((10:UInt8).toNat:Int)=10:=rfl;omega))
        have H:=Lib.hid (piece_no3 HC.out HH.out (by rw [HTW.out];intro h;exact c1 (Option.some.inj h)));clear HC HH HTW c1;have hg0:w3.heap[g]? =some (.cells #[.string ⟨#[]⟩,.bool false,.string ⟨#[]⟩] 170 (0,0)):=(hb3.block g hgB).trans HGB.out;obtain ⟨f0,f1,f2,e0,e1,e2⟩:=file_ready hg0;obtain ⟨s0,s1,s2,s3⟩:=file_store hg0 (.string ⟨#[]⟩) (.bool false) (.string ⟨#[]⟩) hgw;have S0:=Lib.hid s0;have S1:=Lib.hid s1;have S2:=Lib.hid s2;have HBF:=Lib.hid ((HBW.out.trans (hb3.mono hwB)).trans s3);clear hg0 s0 s1 s2 s3;go_wp2_with fail;exact bodyPost_ret (v:= .tuple #[.agg #[.string ⟨#[]⟩,.bool false,.string ⟨#[]⟩],.string ⟨#[]⟩,.bool false]) (by simp [results,Tryz.results211,go_sem,S0.out,S1.out,S2.out]) rfl (POnePost.no H.out HBF.out)
      ·have H:=Lib.hid (piece_no3 HC.out HH.out (by rw [List.getElem?_eq_none (by omega)];simp));have hlen2:(rest.size:Int)<(m:Int)+1:=by omega
       clear HC HH;have hg0:w3.heap[g]? =some (.cells #[.string ⟨#[]⟩,.bool false,.string ⟨#[]⟩] 170 (0,0)):=(hb3.block g hgB).trans HGB.out;obtain ⟨f0,f1,f2,e0,e1,e2⟩:=file_ready hg0;obtain ⟨s0,s1,s2,s3⟩:=file_store hg0 (.string ⟨#[]⟩) (.bool false) (.string ⟨#[]⟩) hgw;have S0:=Lib.hid s0;have S1:=Lib.hid s1;have S2:=Lib.hid s2;have HBF:=Lib.hid ((HBW.out.trans (hb3.mono hwB)).trans s3);clear hg0 s0 s1 s2 s3;go_wp2_with fail;exact bodyPost_ret (v:= .tuple #[.agg #[.string ⟨#[]⟩,.bool false,.string ⟨#[]⟩],.string ⟨#[]⟩,.bool false]) (by simp [results,Tryz.results211,go_sem,S0.out,S1.out,S2.out]) rfl (POnePost.no H.out HBF.out)
     ·have H:=Lib.hid (piece_no2 HC.out (HNN.out hm));clear HC HN HMM HNN hm;have hg0:w3.heap[g]? =some (.cells #[.string ⟨#[]⟩,.bool false,.string ⟨#[]⟩] 170 (0,0)):=(hb3.block g hgB).trans HGB.out;obtain ⟨f0,f1,f2,e0,e1,e2⟩:=file_ready hg0;obtain ⟨s0,s1,s2,s3⟩:=file_store hg0 (.string ⟨#[]⟩) (.bool false) (.string ⟨#[]⟩) hgw;have S0:=Lib.hid s0;have S1:=Lib.hid s1;have S2:=Lib.hid s2;have HBF:=Lib.hid ((HBW.out.trans (hb3.mono hwB)).trans s3);clear hg0 s0 s1 s2 s3;go_wp2_with fail;exact bodyPost_ret (v:= .tuple #[.agg #[.string ⟨#[]⟩,.bool false,.string ⟨#[]⟩],.string ⟨#[]⟩,.bool false]) (by simp [results,Tryz.results211,go_sem,S0.out,S1.out,S2.out]) rfl (POnePost.no H.out HBF.out)
  ·have H:Hid (pieceL (bl s)=none):=piece_no2 HC.out (head_len (by
    have:=congrArg List.length HZ.out;rw [List.length_map] at this;omega))
   have h3':((n:Int) != 3)=true:=by rw [bne_iff_ne];omega
   clear HC HZ HS HA;have hg0:w2.heap[g]? =some (.cells #[.string ⟨#[]⟩,.bool false,.string ⟨#[]⟩] 170 (0,0)):=(hb2.block g hgB).trans HGB.out;obtain ⟨f0,f1,f2,e0,e1,e2⟩:=file_ready hg0;obtain ⟨s0,s1,s2,s3⟩:=file_store hg0 (.string ⟨#[]⟩) (.bool false) (.string ⟨#[]⟩) hgw;have S0:=Lib.hid s0;have S1:=Lib.hid s1;have S2:=Lib.hid s2;have HBF:=Lib.hid ((HBW.out.trans (hb2.mono hwB)).trans s3);clear hg0 s0 s1 s2 s3;go_wp2_with fail;exact bodyPost_ret (v:= .tuple #[.agg #[.string ⟨#[]⟩,.bool false,.string ⟨#[]⟩],.string ⟨#[]⟩,.bool false]) (by simp [results,Tryz.results211,go_sem,S0.out,S1.out,S2.out]) rfl (POnePost.no H.out HBF.out)
def PReadPost (E:Nat→Addr) (s:ByteArray) (w:World) (e:Ending) (w':World):Prop:=
 (∃v ev:Value,e=.returned (.tuple #[v,ev])∧Hid (FArg w' v (readT (bl s)))∧Hid (IsErr E w' ev (readEr (bl s))))∧Below w.heap.size w w'
theorem FArg.nil (w:World):FArg w (.slice none 0 0) []:=⟨⟨none,0,rfl,Nat.le_refl _,Nat.zero_le _,fun i hi=>absurd hi (Nat.not_lt_zero _)⟩,fun n c e=>by injection e with _ e1 e2;exact ⟨e1.symm,e2.symm⟩⟩
def PReadOwn (E:Nat→Addr) (s:ByteArray) (w:World) (e:Ending) (w':World):Prop:=
 (∃v ev:Value,e=.returned (.tuple #[v,ev])∧Hid (FOwn w' w.heap.size v (readT (bl s)))∧Hid (IsErr E w' ev (readEr (bl s))))∧Below w.heap.size w w'
theorem packRead_own {E:Nat→Addr} (s:ByteArray) (w:World) (hs:s.size≤1000000) (hE:REnv E w):
  Calls Tryz.prog 171 #[.string s] w (PReadOwn E s w):=by
 obtain ⟨i0,hi0,hz0,hz1,hz2⟩:=info_parts Tryz.infoFile;have HE:=Lib.hid hE;have hsl:(bl s).length=s.size:=bl_length s;go_enter Tryz.func171,Tryz.ntmps171;by_cases h20:20000<s.size
 ·have HX:=Lib.hid (readEr_big (s:=bl s) (by omega));have c1:=hE.1.1.1.eBound;clear hE;go_wp2_with fail;go_quiet (fail);go_wp2_with fail;go_ret2;exact ⟨⟨_,_,rfl,by show FOwn _ _ _ _;rw [HX.out.2];exact FOwn.nil _ _,by show IsErr _ _ _ _;rw [HX.out.1];exact IsErr.base E _ 1 (by decide)⟩,below_drewN _ _ _⟩
 ·have HS20:Hid (¬20000<(bl s).length):=by show ¬_;rw [hsl];exact h20
  clear hE;go_wp2_with fail;go_loopw [0,4] (fun sv ov wr=>∃(x:ByteArray) (acc:List FileB),sv=.string x∧Hid (PStep (bl s) acc (bl x))∧Hid (FOwn wr w.heap.size ov acc)∧Below w.heap.size w wr) (fun sv _ _=>match sv with|.string x=>x.size|_=>0)
  case atStart=>exact ⟨s,[],rfl,PStep.start _,FOwn.nil _ _,Below.refl _ _⟩
  case round=>
   obtain ⟨x,acc,rfl,HP,HO,hb⟩:=hrel;obtain ⟨oo,oc,rfl⟩:=HO.out.shape;obtain ⟨hal,hsm,hxs⟩:=HP.out.small (by omega);rw [bl_length,hsl] at hxs;have HSM:=Lib.hid hsm;clear hsm
   cases hx0:x.toList.isEmpty with
   |true=>
    have hx2:bl x=[]:=by rw [←toList_bl];exact List.isEmpty_iff.1 hx0
    have HA:Hid (allL (bl s)=(acc,true)):=by have:=HP.out;rw [hx2] at this;exact this.done
    have HX:=Lib.hid (readEr_all HS20.out HA.out);have hfa:=HO.out.arg;have C:=Lib.hid (treeCheck_any _ acc wr hfa.1 (by omega) HSM.out (HE.out.ext hb).1.1);clear HP HA hfa;go_wp2_with fail;refine C.out.mono ?_;clear C;rintro e w1 ⟨⟨ev,rfl,HEV⟩,hb1⟩;have hbb:=hb.trans (hb1.mono hb.size);have HO1:=Lib.hid (HO.out.ext hb1);obtain ⟨er,her⟩:∃er,treeEr acc=er:=⟨_,rfl⟩;rw [her] at HX HEV;clear her HO hb1 hb;by_cases hc:er.code=0
    ·have HRT:Hid (readT (bl s)=acc):=by show _=_;rw [HX.out.2,if_pos hc]
     obtain rfl:ev=.nilIface:=by
      have h:=HEV.out;obtain ⟨c,a⟩:=er;obtain rfl:c=0:=hc;exact h.nil_inv
     clear hc;go_wp2_with fail;go_ret2;exact ⟨⟨_,_,rfl,by show FOwn _ _ _ _;rw [HRT.out];exact HO1.out,by show IsErr _ _ _ _;rw [HX.out.1];exact HEV.out⟩,hbb⟩
    ·have HRT:Hid (readT (bl s)=[]):=by show _=_;rw [HX.out.2,if_neg hc]
     obtain ⟨te,xv,rfl⟩:=HEV.out.some_inv hc;clear hc;go_wp2_with fail;go_ret2;exact ⟨⟨_,_,rfl,by show FOwn _ _ _ _;rw [HRT.out];exact FOwn.nil _ _,by show IsErr _ _ _ _;rw [HX.out.1];exact HEV.out⟩,hbb⟩
   |false=>
    have hne:bl x≠[]:=by rw [←toList_bl];intro h;rw [h] at hx0;cases hx0
    have C:=Lib.hid (packOne_any (E:=E) x wr (by omega) (HE.out.ext hb));go_wp2_with fail;refine C.out.mono ?_;clear C;rintro e w1 ⟨⟨f,r,ok,rfl,HT⟩,hb1⟩;have hbb:=hb.trans (hb1.mono hb.size);have HO1:=Lib.hid (HO.out.ext hb1);clear HO;rcases HT.out with ⟨ho,rfl⟩|⟨ho,rfl⟩
    ·have HP2:=Lib.hid (HP.out.next ho);have hlt:=pieceL_lt ho;rw [bl_length,bl_length] at hlt;clear HT HP ho;have hal2:Below w1.heap.size w1 (w1.alloc (.cells #[.string f.path,.bool f.run,.string f.text] 170)):=(Below.refl _ _).alloc (Nat.le_refl _) _;have hA:=heap_alloc_new w1 (.cells #[.string f.path,.bool f.run,.string f.text] 170);have a0:(w1.alloc (.cells #[.string f.path,.bool f.run,.string f.text] 170)).cell? ⟨w1.heap.size,0,none⟩=some (.string f.path):=by rw [Lib.cell_of_heap hA];rfl
     have a1:(w1.alloc (.cells #[.string f.path,.bool f.run,.string f.text] 170)).cell? ⟨w1.heap.size,1,none⟩=some (.bool f.run):=by rw [Lib.cell_of_heap hA];rfl
     have a2:(w1.alloc (.cells #[.string f.path,.bool f.run,.string f.text] 170)).cell? ⟨w1.heap.size,2,none⟩=some (.string f.text):=by rw [Lib.cell_of_heap hA];rfl
     have hba:Below w.heap.size w (w1.alloc (.cells #[.string f.path,.bool f.run,.string f.text] 170)):=hbb.trans (hal2.mono hbb.size);have HOA:=Lib.hid (HO1.out.ext hal2);clear HO1 hal2 hA hbb hb1 hb;go_wp2_with (at_builtin;refine wpList_append_own _ rfl _ _ 124 rfl w.heap.size 170 i0 (.agg #[.string ⟨#[]⟩,.bool false,.string ⟨#[]⟩]) 3 40 Tryz.underlying124 hi0 hz0 hz1 hz2 rfl (by decide) _ _ _ rfl (World.ownsRow.alloc HOA.out _) ⟨w1.heap.size+1,0,none⟩ 1 1 (encFile f) rfl rfl ?c1 ?c2 ?c3 ?c4 ?c5 ?_)
     case c1=>
      intro j u hj
      match j,hj with
      |0,hj=>simp at hj;subst hj;simp [Addr.add]
      |1,hj=>simp at hj;subst hj;simp [Addr.add]
      |2,hj=>simp at hj;subst hj;simp [Addr.add]
     case c2=>intro u hu;simp at hu;rcases hu with rfl|rfl|rfl<;>rfl
     case c3=>rw [maxLen_eq];omega
     case c4=>omega
     case c5=>have:=hba.size;simp at this⊢;omega
     intro v' w3 hown' hgrow _;have hown2:Hid (FOwn w3 w.heap.size v' (acc++[f])):=by
      show World.ownsRow _ _ _ _ _ _ _;simpa using hown'
     have hb3:Below w.heap.size w w3:=(hba.alloc hba.size _).grown hgrow (by have:=hba.size;simp at this⊢;omega) (fun q hq=>(World.ownsRow.lt HOA.out q hq).1);clear hown' hgrow HOA hba a0 a1 a2;go_wp2_with fail;go_roundw
     case rel=>exact ⟨r,acc++[f],rfl,HP2,hown2,hb3⟩
     case measure=>exact hlt
    ·have HX:=Lib.hid (readEr_bad HS20.out (HP.out.bad ho hne));obtain ⟨wa,hwa⟩:∃wa,w1.alloc (.cells #[.string f.path,.bool f.run,.string f.text] 170)=wa:=⟨_,rfl⟩;have hba:Below w.heap.size w wa:=by rw [←hwa];exact hbb.alloc hbb.size _
     have c1:=(HE.out.ext hba).1.1.1.eText;have HWA:=Lib.hid hwa;clear HT HP ho hwa hbb hb1 hb HO1;go_wp2_with fail;rw [HWA.out];go_region
     all_goals
      go_wp2_with fail;go_ret2;refine ⟨⟨_,_,rfl,by show FOwn _ _ _ _;rw [HX.out.2];exact FOwn.nil _ _,?_⟩,(hba.alloc hba.size _).drew⟩;show IsErr _ _ _ _;rw [HX.out.1];exact IsErr.fault E _ 0 (by decide) _ _ ((World.cell?_alloc_at (w:=wa) _ _ _ _ rfl).trans rfl) ((World.cell?_alloc_at (w:=wa) _ _ _ _ rfl).trans rfl)
theorem packRead_any {E:Nat→Addr} (s:ByteArray) (w:World) (hs:s.size≤1000000) (hE:REnv E w):
  Calls Tryz.prog 171 #[.string s] w (PReadPost E s w):=
 (packRead_own s w hs hE).mono fun _ _ ⟨⟨v,ev,h1,h2,h3⟩,h4⟩=>⟨⟨v,ev,h1,h2.out.arg,h3⟩,h4⟩
end Go.Proofs.YtaabgmbjmfjdjaaGreatDoor
