import Derived.Test.YtaabgmbjmfjdjaaGreatDoorJSortPlainlyEtc
import Derived.Deep.DeepCutAuto
import Derived.Deep.CutRange
import Derived.Shelf.SlSortCmp.InsertionK
import Derived.Shelf.SlGeneric
import Derived.Ground.SlsfProg
import Derived.Test.YtaabgmbjmfjdjaaGreatDoorProg
import Derived.Shelf.SlSortFuncK.ComposeK
namespace Go.Proofs.YtaabgmbjmfjdjaaGreatDoor
open Go Go.RowKit Go.Lib Go.Sort
set_option maxHeartbeats 4000000 in
set_option maxRecDepth 100000 in
theorem symMerge_lo (cf:FileB→FileB→Int) (g:Nat) (cb:Array Value) (eg:∀args w,(callFunc g args).run Tryz.prog w=.ok (.enter g args) w) (hO:SWO (ltOf cf)) (blk off cap a m b N mid:Nat) (d0 d:Array FileB) (w0 w:World)
  (hC:CmpLays Tryz.prog g cb encFile 3 cf blk off d0.size w0) (R:RowF w0 blk off d0) (hs:d.size=d0.size) (S:SWF w0 blk off d w) (ham:a+1<m) (hmb:m+1<b) (hb:b≤d.size) (hsz:d.size<4611686018427387904) (h1:SortedIn (ltOf cf) a m d) (h2:SortedIn (ltOf cf) m b d)
  (hN:b-a≤N+1) (IH:SymAll Tryz.prog 241 g cb (ltOf cf) w0 blk off cap d0.size N) (hmid:(a+b)/2=mid) (hmm:mid<m):
  Calls Tryz.prog 241 #[.slice (some ⟨blk,off,none⟩) d.size cap,.int .i64 a,.int .i64 m,.int .i64 b,.func (.func g) #[] cb] w (MergePost w0 blk off (ltOf cf) a b d):=by
 have S0:=Lib.hid S;have HR:=Lib.hid R;have HS:=Lib.hid hs;have HC:Aside _:=hC;have HO:=Lib.hid hO;have H1:=Lib.hid h1;have H2:=Lib.hid h2;have HIH:Aside _:=IH;have mixed:Tryz.prog.follows .mixedOrders=true:=by kernel_rfl
 have q0:((m:Int)- (a:Int)==1)=false:=by simp;omega
 have q1:((b:Int)- (m:Int)==1)=false:=by simp;omega
 have eqm:((a:Int)+(b:Int))/2=(mid:Int):=by omega
 have hm1:a<mid:=by omega
 have hm2:mid<b:=by omega
 clear S R hs hC hO h1 h2 IH hmid
 ·go_enter Tryz.func241,Tryz.ntmps241;go_wp2_with fail
  go_loopg [20,21] (mid- (mid+m-b)) (fun g1 vi vj wr=>∃(i j:Nat),vi=.int .i64 i∧vj=.int .i64 j∧(mid+m-b)≤i∧i≤j∧j≤mid∧j-i≤g1∧Hid (SWF w0 blk off d wr)∧Hid (i=(mid+m-b)∨ltOf cf d[mid+m-i]! d[i-1]! =false)∧Hid (j=mid∨ltOf cf d[mid+m-1-j]! d[j]! =true))
  case atStart=>exact ⟨(mid+m-b),mid,by rw [show (mid:Int)+(m:Int)- (b:Int)=((mid+m-b:Nat):Int) by omega],rfl,Nat.le_refl _,by omega,Nat.le_refl _,Nat.le_refl _,S0,.inl rfl,.inl rfl⟩
  case round=>
   clear S0;obtain ⟨i,j,rfl,rfl,hi,hij,hj,hg,S1,H3,H4⟩:=hrel;by_cases hlt:i<j
   ·obtain ⟨q,hq⟩:∃q,(i+j)/2=q:=⟨_,rfl⟩;have eq1:((i:Int)+(j:Int))/2=(q:Int):=by omega
    have EQ:=Lib.hid eq1;have e1:(((i:Int)+(j:Int))/2).toNat=q:=by omega
    have p1:(0:Int)≤((i:Int)+(j:Int))/2:=by omega
    have b1:((i:Int)+(j:Int))/2<(d.size:Int):=by omega
    have hqi:i≤q:=by omega
    have hqj:q<j:=by omega
    obtain ⟨y,hy⟩:∃y,mid+m-1-q=y:=⟨_,rfl⟩;have e2:((mid:Int)+(m:Int)-1- ((i:Int)+(j:Int))/2).toNat=y:=by omega
    have p2:(0:Int)≤(mid:Int)+(m:Int)-1- ((i:Int)+(j:Int))/2:=by omega
    have b2:(mid:Int)+(m:Int)-1- ((i:Int)+(j:Int))/2<(d.size:Int):=by omega
    have p3:((i:Int)+(j:Int))/2≤(mid:Int)+(m:Int)-1:=by omega
    have r2:IntKind.i64.wrap ((mid:Int)+(m:Int)-1- ((i:Int)+(j:Int))/2)=(mid:Int)+(m:Int)-1- ((i:Int)+(j:Int))/2:=by rw [IntKind.wrap_i64];omega
    have hyd:y<d.size:=by omega
    have lx:∀n os,_:=fun n os=>(SWK.files (S1.out.grown n os) HR.out HS.out q (by omega)).1
    have ly:∀n os,_:=fun n os=>(SWK.files (S1.out.grown n os) HR.out HS.out y hyd).1
    have lx0:=fun n os=>(lx n os).1
    have lx1:=fun n os=>(lx n os).2.1
    have lx2:=fun n os=>(lx n os).2.2
    have ly0:=fun n os=>(ly n os).1
    have ly1:=fun n os=>(ly n os).2.1
    have ly2:=fun n os=>(ly n os).2.2
    have hc:∀n os,_:=fun n os=>S1.out.cmp HC.out HS.out d[y]! d[q]! n os
    have HCM:=Lib.hid hc;have HY:=Lib.hid hy;clear lx ly hc hq eq1 hy;by_cases hv:cf d[y]! d[q]!<0
    ·have H5:Hid (q=mid∨ltOf cf d[mid+m-1-q]! d[q]! =true):= .inr (by rw [HY.out];exact decide_eq_true hv);generalize d[q]! =fq at lx0 lx1 lx2 HCM hv;generalize d[y]! =fa at ly0 ly1 ly2 HCM hv;clear H4;go_wp2_with fail;go_quiet_grown (first|(go_at_fn g;refine Calls.grown_of (HCM.out _ _)));have S2:=Lib.hid (S1.out.grown nq osq);generalize grow (wr.drewN nq) osq=wv at S2⊢;clear lx0 lx1 lx2 ly0 ly1 ly2 HCM S1;go_wp2_with fail;go_roundg (q-i)
     case measure=>omega
     case rel=>exact ⟨i,q,rfl,by rw [EQ.out],hi,hqi,by omega,Nat.le_refl _,S2,H3,H5⟩
    ·have H5:Hid (q+1=(mid+m-b)∨ltOf cf d[mid+m- (q+1)]! d[q+1-1]! =false):= .inr (by rw [show mid+m- (q+1)=y by have:=HY.out;omega];exact decide_eq_false hv);have hvf:decide (cf d[y]! d[q]!<0)=false:=decide_eq_false hv;generalize d[q]! =fq at lx0 lx1 lx2 HCM hv hvf;generalize d[y]! =fa at ly0 ly1 ly2 HCM hv hvf;clear H3;go_wp2_with fail;go_quiet_grown (first|(go_at_fn g;refine Calls.grown_of (HCM.out _ _)));have S2:=Lib.hid (S1.out.grown nq osq);generalize grow (wr.drewN nq) osq=wv at S2⊢;clear lx0 lx1 lx2 ly0 ly1 ly2 HCM S1;go_wp2_with fail;go_roundg (j- (q+1))
     case measure=>omega
     case rel=>exact ⟨q+1,j,by rw [EQ.out];go_num,rfl,by omega,by omega,hj,Nat.le_refl _,S2,H5,H4⟩
   ·obtain rfl:i=j:=by omega
    obtain ⟨E,hE⟩:∃E,mid+m-i=E:=⟨_,rfl⟩;have eE:(mid:Int)+(m:Int)- (i:Int)=(E:Int):=by omega
    have KL:Hid (i=a∨E=b∨ltOf cf d[E]! d[i-1]! =false):=by
     rcases H3.out with h|h
     ·first|exact .inl (by omega)|exact .inr (.inl (by omega))
     ·rw [hE] at h;exact .inr (.inr h)
    have KR:Hid (E=m∨i=m∨ltOf cf d[i]! d[E-1]! =false):=by
     rcases H4.out with h|h
     ·first|exact .inl (by omega)|exact .inr (.inl (by omega))
     ·rw [show mid+m-1-i=E-1 by omega] at h;exact .inr (.inr (swo_asymm HO.out h))
    have g1:a≤i:=by omega
    have g2:i≤m:=by omega
    have g3:m≤E:=by omega
    have g4:E≤b:=by omega
    have g5:i+(E-m)=mid:=by omega
    have g6:i≤mid:=by omega
    have g7:mid≤E:=by omega
    have G5:=Lib.hid g5;clear H3 H4 hE g5 hg hlt;go_upto_region 39 with fail
    go_cut [185] from 25 (fun s wx=>s=.bool (decide (i<m∧m<E))∧Hid (SWF w0 blk off d wx))
    case first=>as_aux_lemma=>
     by_cases c1:i<m
     ·by_cases c2:m<E
      ·go_wp2_with fail;go_meet
       case rel=>exact ⟨by simp [c1,c2],S1⟩
      ·go_wp2_with fail;go_meet
       case rel=>exact ⟨by simp [c1,c2],S1⟩
     ·go_wp2_with fail;go_meet
      case rel=>exact ⟨by simp [c1],S1⟩
    case rest=>as_aux_lemma=>
    clear S1;obtain ⟨rfl,S1⟩:=hcut;go_upto_if 185 with fail
    go_cut [0] from 25 (fun s wx=>s=.slice (some ⟨blk,off,none⟩) d.size cap∧∃d1:Array FileB,Hid (SWF w0 blk off d1 wx)∧Hid (RotIn i m E d d1)∧Hid (PermAll a b d d1))
    case first=>as_aux_lemma=>
     by_cases c:i<m∧m<E
     ·have cd:decide (i<m∧m<E)=true:=decide_eq_true c;have C:=Lib.hid (rotate_any (.func (.func g) #[] cb) blk off cap i m E d0 d w0 _ HR.out HS.out S1.out c.1 c.2 (by omega) hsz);clear c;rw [cd];go_wp2_with fail;refine C.out.mono ?_;rintro e w2 ⟨rfl,d1,S2,G1,G2⟩;have S2:=Lib.hid S2;have G1:=Lib.hid G1;have G2:Hid (PermAll a b d d1):=fun lo hi h1 h2 h3=>G2 lo hi (by omega) (by omega) h3
      clear C S1;go_wp2_with fail;go_meet
      case rel=>exact ⟨rfl,d1,S2,G1,G2⟩
     ·have cd:decide (i<m∧m<E)=false:=decide_eq_false c;have G1:Hid (RotIn i m E d d):=by
       by_cases c1:i<m
       ·have:E=m:=by omega
        subst this;exact RotIn.right g2 d
       ·have:i=m:=by omega
        subst this;exact RotIn.left d
      rw [cd];clear c;go_wp2_with fail;go_meet
      case rel=>exact ⟨rfl,d,S1,G1,PermAll.refl _ _ _⟩
    case rest=>as_aux_lemma=>
    clear S1;obtain ⟨rfl,d1,S1,F1,F2⟩:=hcut;have hd1:d1.size=d.size:=F1.out.1;have HD1:=Lib.hid hd1;have T:=Lib.hid (sym_halves HO.out H1.out H2.out F1.out g1 g2 g3 g4 G5.out KL.out KR.out);clear hd1 F1 KL KR;go_upto_region 41 with fail
    go_cut [199] from 25 (fun s wx=>s=.bool (decide (a<i∧i<mid))∧Hid (SWF w0 blk off d1 wx))
    case first=>as_aux_lemma=>
     by_cases c1:a<i
     ·by_cases c2:i<mid
      ·go_wp2_with fail;go_meet
       case rel=>exact ⟨by simp [c1,c2],S1⟩
      ·go_wp2_with fail;go_meet
       case rel=>exact ⟨by simp [c1,c2],S1⟩
     ·go_wp2_with fail;go_meet
      case rel=>exact ⟨by simp [c1],S1⟩
    case rest=>as_aux_lemma=>
    clear S1;obtain ⟨rfl,S1⟩:=hcut;go_upto_if 199 with fail
    go_cut [0] from 25 (fun s wx=>s=.slice (some ⟨blk,off,none⟩) d.size cap∧∃d2:Array FileB,Hid (SWF w0 blk off d2 wx)∧Hid (PermAll a mid d1 d2)∧Hid (SortedIn (ltOf cf) a mid d2))
    case first=>as_aux_lemma=>
     by_cases c:a<i∧i<mid
     ·have cd:decide (a<i∧i<mid)=true:=decide_eq_true c;have C:=HIH.out a i mid d1 _ (by omega) c.1 c.2 (by have:=HD1.out;omega) (HD1.out.trans HS.out) S1.out T.out.1 T.out.2.1;rw [HD1.out] at C;have C:=Lib.hid C;clear c;rw [cd];go_wp2_with fail;refine C.out.mono ?_;rintro e w2 ⟨rfl,d2,S2,G1,G2⟩;have S2:=Lib.hid S2;have G1:=Lib.hid G1;have G2:=Lib.hid G2;clear C S1;go_wp2_with fail;go_meet
      case rel=>exact ⟨rfl,d2,S2,G1,G2⟩
     ·have cd:decide (a<i∧i<mid)=false:=decide_eq_false c;have G1:Hid (SortedIn (ltOf cf) a mid d1):=by
       by_cases c1:a<i
       ·have e:i=mid:=by omega
        have:=T.out.1;rw [e] at this;exact this
       ·have e:i=a:=by omega
        have:=T.out.2.1;rw [e] at this;exact this
      rw [cd];clear c;go_wp2_with fail;go_meet
      case rel=>exact ⟨rfl,d1,S1,PermAll.refl _ _ _,G1⟩
    case rest=>as_aux_lemma=>
    clear S1;obtain ⟨rfl,d2,S1,F3,F4⟩:=hcut;have hd2:d2.size=d1.size:=(F3.out 0 d1.size (Nat.zero_le _) (by have:=HD1.out;omega) (Nat.le_refl _)).1;have HD2:=Lib.hid (hd2.trans HD1.out);have P2:=Lib.hid (F3.out a mid (Nat.le_refl _) (Nat.le_refl _) (by have:=HD1.out;omega));clear hd2;go_upto_region 43 with fail
    go_cut [213] from 25 (fun s wx=>s=.bool (decide (mid<E∧E<b))∧Hid (SWF w0 blk off d2 wx))
    case first=>as_aux_lemma=>
     by_cases c1:mid<E
     ·by_cases c2:E<b
      ·go_wp2_with fail;go_meet
       case rel=>exact ⟨by simp [c1,c2],S1⟩
      ·go_wp2_with fail;go_meet
       case rel=>exact ⟨by simp [c1,c2],S1⟩
     ·go_wp2_with fail;go_meet
      case rel=>exact ⟨by simp [c1],S1⟩
    case rest=>as_aux_lemma=>
    clear S1;obtain ⟨rfl,S1⟩:=hcut;by_cases c:mid<E∧E<b
    ·have cd:decide (mid<E∧E<b)=true:=decide_eq_true c;have C:=HIH.out mid E b d2 _ (by omega) c.1 c.2 (by have:=HD2.out;omega) (HD2.out.trans HS.out) S1.out (permIn_keeps P2.out (.inr (Nat.le_refl _)) T.out.2.2.1) (permIn_keeps P2.out (.inr g7) T.out.2.2.2.1);rw [HD2.out] at C;have C:=Lib.hid C;clear c;rw [cd];go_wp2_with fail;refine C.out.mono ?_;rintro e w2 ⟨rfl,d3,S2,G1,G2⟩;have S2:=Lib.hid S2;have P3:=G1 mid b (Nat.le_refl _) (Nat.le_refl _) (by have:=HD2.out;omega);have R3:=Lib.hid (sym_done (by have:=HD1.out;omega) (by omega) (by omega) T.out.2.2.2.2 P2.out F4.out P3 G2);have R4:Hid (PermAll a b d d3):=(F2.out.trans (fun lo hi h1 h2 h3=>F3.out lo hi h1 (by omega) h3) HD1.out).trans (fun lo hi h1 h2 h3=>G1 lo hi (by omega) h2 h3) HD2.out;clear C S1 G1 G2 P3;go_wp2_with fail
     go_end0
     exact ⟨rfl,d3,S2.out,R4.out,R3.out⟩
    ·have cd:decide (mid<E∧E<b)=false:=decide_eq_false c;have G2:SortedIn (ltOf cf) mid b d2:=by
      by_cases c1:mid<E
      ·have e:E=b:=by omega
       have:=permIn_keeps P2.out (.inr (Nat.le_refl _)) T.out.2.2.1;rw [e] at this;exact this
      ·have e:E=mid:=by omega
       have:=permIn_keeps P2.out (.inr g7) T.out.2.2.2.1;rw [e] at this;exact this
     have R3:=Lib.hid (sym_done (by have:=HD1.out;omega) (by omega) (by omega) T.out.2.2.2.2 P2.out F4.out (permIn_refl d2 mid b) G2);have R4:Hid (PermAll a b d d2):=F2.out.trans (fun lo hi h1 h2 h3=>F3.out lo hi h1 (by omega) h3) HD1.out;rw [cd];clear c G2;go_wp2_with fail
     go_end0
     exact ⟨rfl,d2,S1.out,R4.out,R3.out⟩
end Go.Proofs.YtaabgmbjmfjdjaaGreatDoor
namespace Go.Proofs.YtaabgmbjmfjdjaaGreatDoor
open Go Go.RowKit Go.Lib Go.Sort
set_option maxHeartbeats 4000000 in
set_option maxRecDepth 100000 in
theorem symMerge_hi (cf:FileB→FileB→Int) (g:Nat) (cb:Array Value) (eg:∀args w,(callFunc g args).run Tryz.prog w=.ok (.enter g args) w) (hO:SWO (ltOf cf)) (blk off cap a m b N mid:Nat) (d0 d:Array FileB) (w0 w:World)
  (hC:CmpLays Tryz.prog g cb encFile 3 cf blk off d0.size w0) (R:RowF w0 blk off d0) (hs:d.size=d0.size) (S:SWF w0 blk off d w) (ham:a+1<m) (hmb:m+1<b) (hb:b≤d.size) (hsz:d.size<4611686018427387904) (h1:SortedIn (ltOf cf) a m d) (h2:SortedIn (ltOf cf) m b d)
  (hN:b-a≤N+1) (IH:SymAll Tryz.prog 241 g cb (ltOf cf) w0 blk off cap d0.size N) (hmid:(a+b)/2=mid) (hmm:¬mid<m):
  Calls Tryz.prog 241 #[.slice (some ⟨blk,off,none⟩) d.size cap,.int .i64 a,.int .i64 m,.int .i64 b,.func (.func g) #[] cb] w (MergePost w0 blk off (ltOf cf) a b d):=by
 have S0:=Lib.hid S;have HR:=Lib.hid R;have HS:=Lib.hid hs;have HC:Aside _:=hC;have HO:=Lib.hid hO;have H1:=Lib.hid h1;have H2:=Lib.hid h2;have HIH:Aside _:=IH;have mixed:Tryz.prog.follows .mixedOrders=true:=by kernel_rfl
 have q0:((m:Int)- (a:Int)==1)=false:=by simp;omega
 have q1:((b:Int)- (m:Int)==1)=false:=by simp;omega
 have eqm:((a:Int)+(b:Int))/2=(mid:Int):=by omega
 have hm1:a<mid:=by omega
 have hm2:mid<b:=by omega
 clear S R hs hC hO h1 h2 IH hmid
 ·go_enter Tryz.func241,Tryz.ntmps241;go_wp2_with fail
  go_loopg [20,21] (m-a) (fun g1 vi vj wr=>∃(i j:Nat),vi=.int .i64 i∧vj=.int .i64 j∧a≤i∧i≤j∧j≤m∧j-i≤g1∧Hid (SWF w0 blk off d wr)∧Hid (i=a∨ltOf cf d[mid+m-i]! d[i-1]! =false)∧Hid (j=m∨ltOf cf d[mid+m-1-j]! d[j]! =true))
  case atStart=>exact ⟨a,m,rfl,rfl,Nat.le_refl _,by omega,Nat.le_refl _,Nat.le_refl _,S0,.inl rfl,.inl rfl⟩
  case round=>
   clear S0;obtain ⟨i,j,rfl,rfl,hi,hij,hj,hg,S1,H3,H4⟩:=hrel;by_cases hlt:i<j
   ·obtain ⟨q,hq⟩:∃q,(i+j)/2=q:=⟨_,rfl⟩;have eq1:((i:Int)+(j:Int))/2=(q:Int):=by omega
    have EQ:=Lib.hid eq1;have e1:(((i:Int)+(j:Int))/2).toNat=q:=by omega
    have p1:(0:Int)≤((i:Int)+(j:Int))/2:=by omega
    have b1:((i:Int)+(j:Int))/2<(d.size:Int):=by omega
    have hqi:i≤q:=by omega
    have hqj:q<j:=by omega
    obtain ⟨y,hy⟩:∃y,mid+m-1-q=y:=⟨_,rfl⟩;have e2:((mid:Int)+(m:Int)-1- ((i:Int)+(j:Int))/2).toNat=y:=by omega
    have p2:(0:Int)≤(mid:Int)+(m:Int)-1- ((i:Int)+(j:Int))/2:=by omega
    have b2:(mid:Int)+(m:Int)-1- ((i:Int)+(j:Int))/2<(d.size:Int):=by omega
    have p3:((i:Int)+(j:Int))/2≤(mid:Int)+(m:Int)-1:=by omega
    have r2:IntKind.i64.wrap ((mid:Int)+(m:Int)-1- ((i:Int)+(j:Int))/2)=(mid:Int)+(m:Int)-1- ((i:Int)+(j:Int))/2:=by rw [IntKind.wrap_i64];omega
    have hyd:y<d.size:=by omega
    have lx:∀n os,_:=fun n os=>(SWK.files (S1.out.grown n os) HR.out HS.out q (by omega)).1
    have ly:∀n os,_:=fun n os=>(SWK.files (S1.out.grown n os) HR.out HS.out y hyd).1
    have lx0:=fun n os=>(lx n os).1
    have lx1:=fun n os=>(lx n os).2.1
    have lx2:=fun n os=>(lx n os).2.2
    have ly0:=fun n os=>(ly n os).1
    have ly1:=fun n os=>(ly n os).2.1
    have ly2:=fun n os=>(ly n os).2.2
    have hc:∀n os,_:=fun n os=>S1.out.cmp HC.out HS.out d[y]! d[q]! n os
    have HCM:=Lib.hid hc;have HY:=Lib.hid hy;clear lx ly hc hq eq1 hy;by_cases hv:cf d[y]! d[q]!<0
    ·have H5:Hid (q=m∨ltOf cf d[mid+m-1-q]! d[q]! =true):= .inr (by rw [HY.out];exact decide_eq_true hv);generalize d[q]! =fq at lx0 lx1 lx2 HCM hv;generalize d[y]! =fa at ly0 ly1 ly2 HCM hv;clear H4;go_wp2_with fail;go_quiet_grown (first|(go_at_fn g;refine Calls.grown_of (HCM.out _ _)));have S2:=Lib.hid (S1.out.grown nq osq);generalize grow (wr.drewN nq) osq=wv at S2⊢;clear lx0 lx1 lx2 ly0 ly1 ly2 HCM S1;go_wp2_with fail;go_roundg (q-i)
     case measure=>omega
     case rel=>exact ⟨i,q,rfl,by rw [EQ.out],hi,hqi,by omega,Nat.le_refl _,S2,H3,H5⟩
    ·have H5:Hid (q+1=a∨ltOf cf d[mid+m- (q+1)]! d[q+1-1]! =false):= .inr (by rw [show mid+m- (q+1)=y by have:=HY.out;omega];exact decide_eq_false hv);have hvf:decide (cf d[y]! d[q]!<0)=false:=decide_eq_false hv;generalize d[q]! =fq at lx0 lx1 lx2 HCM hv hvf;generalize d[y]! =fa at ly0 ly1 ly2 HCM hv hvf;clear H3;go_wp2_with fail;go_quiet_grown (first|(go_at_fn g;refine Calls.grown_of (HCM.out _ _)));have S2:=Lib.hid (S1.out.grown nq osq);generalize grow (wr.drewN nq) osq=wv at S2⊢;clear lx0 lx1 lx2 ly0 ly1 ly2 HCM S1;go_wp2_with fail;go_roundg (j- (q+1))
     case measure=>omega
     case rel=>exact ⟨q+1,j,by rw [EQ.out];go_num,rfl,by omega,by omega,hj,Nat.le_refl _,S2,H5,H4⟩
   ·obtain rfl:i=j:=by omega
    obtain ⟨E,hE⟩:∃E,mid+m-i=E:=⟨_,rfl⟩;have eE:(mid:Int)+(m:Int)- (i:Int)=(E:Int):=by omega
    have KL:Hid (i=a∨E=b∨ltOf cf d[E]! d[i-1]! =false):=by
     rcases H3.out with h|h
     ·first|exact .inl (by omega)|exact .inr (.inl (by omega))
     ·rw [hE] at h;exact .inr (.inr h)
    have KR:Hid (E=m∨i=m∨ltOf cf d[i]! d[E-1]! =false):=by
     rcases H4.out with h|h
     ·first|exact .inl (by omega)|exact .inr (.inl (by omega))
     ·rw [show mid+m-1-i=E-1 by omega] at h;exact .inr (.inr (swo_asymm HO.out h))
    have g1:a≤i:=by omega
    have g2:i≤m:=by omega
    have g3:m≤E:=by omega
    have g4:E≤b:=by omega
    have g5:i+(E-m)=mid:=by omega
    have g6:i≤mid:=by omega
    have g7:mid≤E:=by omega
    have G5:=Lib.hid g5;clear H3 H4 hE g5 hg hlt;go_upto_region 39 with fail
    go_cut [185] from 25 (fun s wx=>s=.bool (decide (i<m∧m<E))∧Hid (SWF w0 blk off d wx))
    case first=>as_aux_lemma=>
     by_cases c1:i<m
     ·by_cases c2:m<E
      ·go_wp2_with fail;go_meet
       case rel=>exact ⟨by simp [c1,c2],S1⟩
      ·go_wp2_with fail;go_meet
       case rel=>exact ⟨by simp [c1,c2],S1⟩
     ·go_wp2_with fail;go_meet
      case rel=>exact ⟨by simp [c1],S1⟩
    case rest=>as_aux_lemma=>
    clear S1;obtain ⟨rfl,S1⟩:=hcut;go_upto_if 185 with fail
    go_cut [0] from 25 (fun s wx=>s=.slice (some ⟨blk,off,none⟩) d.size cap∧∃d1:Array FileB,Hid (SWF w0 blk off d1 wx)∧Hid (RotIn i m E d d1)∧Hid (PermAll a b d d1))
    case first=>as_aux_lemma=>
     by_cases c:i<m∧m<E
     ·have cd:decide (i<m∧m<E)=true:=decide_eq_true c;have C:=Lib.hid (rotate_any (.func (.func g) #[] cb) blk off cap i m E d0 d w0 _ HR.out HS.out S1.out c.1 c.2 (by omega) hsz);clear c;rw [cd];go_wp2_with fail;refine C.out.mono ?_;rintro e w2 ⟨rfl,d1,S2,G1,G2⟩;have S2:=Lib.hid S2;have G1:=Lib.hid G1;have G2:Hid (PermAll a b d d1):=fun lo hi h1 h2 h3=>G2 lo hi (by omega) (by omega) h3
      clear C S1;go_wp2_with fail;go_meet
      case rel=>exact ⟨rfl,d1,S2,G1,G2⟩
     ·have cd:decide (i<m∧m<E)=false:=decide_eq_false c;have G1:Hid (RotIn i m E d d):=by
       by_cases c1:i<m
       ·have:E=m:=by omega
        subst this;exact RotIn.right g2 d
       ·have:i=m:=by omega
        subst this;exact RotIn.left d
      rw [cd];clear c;go_wp2_with fail;go_meet
      case rel=>exact ⟨rfl,d,S1,G1,PermAll.refl _ _ _⟩
    case rest=>as_aux_lemma=>
    clear S1;obtain ⟨rfl,d1,S1,F1,F2⟩:=hcut;have hd1:d1.size=d.size:=F1.out.1;have HD1:=Lib.hid hd1;have T:=Lib.hid (sym_halves HO.out H1.out H2.out F1.out g1 g2 g3 g4 G5.out KL.out KR.out);clear hd1 F1 KL KR;go_upto_region 41 with fail
    go_cut [199] from 25 (fun s wx=>s=.bool (decide (a<i∧i<mid))∧Hid (SWF w0 blk off d1 wx))
    case first=>as_aux_lemma=>
     by_cases c1:a<i
     ·by_cases c2:i<mid
      ·go_wp2_with fail;go_meet
       case rel=>exact ⟨by simp [c1,c2],S1⟩
      ·go_wp2_with fail;go_meet
       case rel=>exact ⟨by simp [c1,c2],S1⟩
     ·go_wp2_with fail;go_meet
      case rel=>exact ⟨by simp [c1],S1⟩
    case rest=>as_aux_lemma=>
    clear S1;obtain ⟨rfl,S1⟩:=hcut;go_upto_if 199 with fail
    go_cut [0] from 25 (fun s wx=>s=.slice (some ⟨blk,off,none⟩) d.size cap∧∃d2:Array FileB,Hid (SWF w0 blk off d2 wx)∧Hid (PermAll a mid d1 d2)∧Hid (SortedIn (ltOf cf) a mid d2))
    case first=>as_aux_lemma=>
     by_cases c:a<i∧i<mid
     ·have cd:decide (a<i∧i<mid)=true:=decide_eq_true c;have C:=HIH.out a i mid d1 _ (by omega) c.1 c.2 (by have:=HD1.out;omega) (HD1.out.trans HS.out) S1.out T.out.1 T.out.2.1;rw [HD1.out] at C;have C:=Lib.hid C;clear c;rw [cd];go_wp2_with fail;refine C.out.mono ?_;rintro e w2 ⟨rfl,d2,S2,G1,G2⟩;have S2:=Lib.hid S2;have G1:=Lib.hid G1;have G2:=Lib.hid G2;clear C S1;go_wp2_with fail;go_meet
      case rel=>exact ⟨rfl,d2,S2,G1,G2⟩
     ·have cd:decide (a<i∧i<mid)=false:=decide_eq_false c;have G1:Hid (SortedIn (ltOf cf) a mid d1):=by
       by_cases c1:a<i
       ·have e:i=mid:=by omega
        have:=T.out.1;rw [e] at this;exact this
       ·have e:i=a:=by omega
        have:=T.out.2.1;rw [e] at this;exact this
      rw [cd];clear c;go_wp2_with fail;go_meet
      case rel=>exact ⟨rfl,d1,S1,PermAll.refl _ _ _,G1⟩
    case rest=>as_aux_lemma=>
    clear S1;obtain ⟨rfl,d2,S1,F3,F4⟩:=hcut;have hd2:d2.size=d1.size:=(F3.out 0 d1.size (Nat.zero_le _) (by have:=HD1.out;omega) (Nat.le_refl _)).1;have HD2:=Lib.hid (hd2.trans HD1.out);have P2:=Lib.hid (F3.out a mid (Nat.le_refl _) (Nat.le_refl _) (by have:=HD1.out;omega));clear hd2;go_upto_region 43 with fail
    go_cut [213] from 25 (fun s wx=>s=.bool (decide (mid<E∧E<b))∧Hid (SWF w0 blk off d2 wx))
    case first=>as_aux_lemma=>
     by_cases c1:mid<E
     ·by_cases c2:E<b
      ·go_wp2_with fail;go_meet
       case rel=>exact ⟨by simp [c1,c2],S1⟩
      ·go_wp2_with fail;go_meet
       case rel=>exact ⟨by simp [c1,c2],S1⟩
     ·go_wp2_with fail;go_meet
      case rel=>exact ⟨by simp [c1],S1⟩
    case rest=>as_aux_lemma=>
    clear S1;obtain ⟨rfl,S1⟩:=hcut;by_cases c:mid<E∧E<b
    ·have cd:decide (mid<E∧E<b)=true:=decide_eq_true c;have C:=HIH.out mid E b d2 _ (by omega) c.1 c.2 (by have:=HD2.out;omega) (HD2.out.trans HS.out) S1.out (permIn_keeps P2.out (.inr (Nat.le_refl _)) T.out.2.2.1) (permIn_keeps P2.out (.inr g7) T.out.2.2.2.1);rw [HD2.out] at C;have C:=Lib.hid C;clear c;rw [cd];go_wp2_with fail;refine C.out.mono ?_;rintro e w2 ⟨rfl,d3,S2,G1,G2⟩;have S2:=Lib.hid S2;have P3:=G1 mid b (Nat.le_refl _) (Nat.le_refl _) (by have:=HD2.out;omega);have R3:=Lib.hid (sym_done (by have:=HD1.out;omega) (by omega) (by omega) T.out.2.2.2.2 P2.out F4.out P3 G2);have R4:Hid (PermAll a b d d3):=(F2.out.trans (fun lo hi h1 h2 h3=>F3.out lo hi h1 (by omega) h3) HD1.out).trans (fun lo hi h1 h2 h3=>G1 lo hi (by omega) h2 h3) HD2.out;clear C S1 G1 G2 P3;go_wp2_with fail
     go_end0
     exact ⟨rfl,d3,S2.out,R4.out,R3.out⟩
    ·have cd:decide (mid<E∧E<b)=false:=decide_eq_false c;have G2:SortedIn (ltOf cf) mid b d2:=by
      by_cases c1:mid<E
      ·have e:E=b:=by omega
       have:=permIn_keeps P2.out (.inr (Nat.le_refl _)) T.out.2.2.1;rw [e] at this;exact this
      ·have e:E=mid:=by omega
       have:=permIn_keeps P2.out (.inr g7) T.out.2.2.2.1;rw [e] at this;exact this
     have R3:=Lib.hid (sym_done (by have:=HD1.out;omega) (by omega) (by omega) T.out.2.2.2.2 P2.out F4.out (permIn_refl d2 mid b) G2);have R4:Hid (PermAll a b d d2):=F2.out.trans (fun lo hi h1 h2 h3=>F3.out lo hi h1 (by omega) h3) HD1.out;rw [cd];clear c G2;go_wp2_with fail
     go_end0
     exact ⟨rfl,d2,S1.out,R4.out,R3.out⟩
end Go.Proofs.YtaabgmbjmfjdjaaGreatDoor
namespace Go.Proofs.YtaabgmbjmfjdjaaGreatDoor
open Go Go.RowKit Go.Lib Go.Sort
theorem symMerge_mid (cf:FileB→FileB→Int) (g:Nat) (cb:Array Value) (eg:∀args w,(callFunc g args).run Tryz.prog w=.ok (.enter g args) w) (hO:SWO (ltOf cf)) (blk off cap a m b N:Nat) (d0 d:Array FileB) (w0 w:World)
  (hC:CmpLays Tryz.prog g cb encFile 3 cf blk off d0.size w0) (R:RowF w0 blk off d0) (hs:d.size=d0.size) (S:SWF w0 blk off d w) (ham:a+1<m) (hmb:m+1<b) (hb:b≤d.size) (hsz:d.size<4611686018427387904) (h1:SortedIn (ltOf cf) a m d) (h2:SortedIn (ltOf cf) m b d)
  (hN:b-a≤N+1) (IH:SymAll Tryz.prog 241 g cb (ltOf cf) w0 blk off cap d0.size N):
  Calls Tryz.prog 241 #[.slice (some ⟨blk,off,none⟩) d.size cap,.int .i64 a,.int .i64 m,.int .i64 b,.func (.func g) #[] cb] w (MergePost w0 blk off (ltOf cf) a b d):=by
 by_cases hmm:(a+b)/2<m
 ·exact symMerge_lo cf g cb eg hO blk off cap a m b N _ d0 d w0 w hC R hs S ham hmb hb hsz h1 h2 hN IH rfl hmm
 ·exact symMerge_hi cf g cb eg hO blk off cap a m b N _ d0 d w0 w hC R hs S ham hmb hb hsz h1 h2 hN IH rfl hmm
theorem symMerge_all (cf:FileB→FileB→Int) (g:Nat) (cb:Array Value) (eg:∀args w,(callFunc g args).run Tryz.prog w=.ok (.enter g args) w) (hO:SWO (ltOf cf)) (blk off cap:Nat) (d0:Array FileB) (w0:World)
  (hC:CmpLays Tryz.prog g cb encFile 3 cf blk off d0.size w0) (R:RowF w0 blk off d0) (hsz:d0.size<4611686018427387904):∀n,SymAll Tryz.prog 241 g cb (ltOf cf) w0 blk off cap d0.size n
 |0=>fun a m b d w h h1 h2=>by omega
 |n+1=>fun a m b d w h h1 h2 hb hs S s1 s2=>by
  by_cases c1:m=a+1
  ·subst c1;exact symMerge_up cf g cb eg hO blk off cap a b d0 d w0 w hC R hs S h2 hb (by omega) s2
  ·by_cases c2:b=m+1
   ·subst c2;exact symMerge_down cf g cb eg hO blk off cap a m d0 d w0 w hC R hs S (by omega) hb (by omega) s1
   ·exact symMerge_mid cf g cb eg hO blk off cap a m b n d0 d w0 w hC R hs S (by omega) (by omega) hb (by omega) s1 s2 h (symMerge_all cf g cb eg hO blk off cap d0 w0 hC R hsz n)
end Go.Proofs.YtaabgmbjmfjdjaaGreatDoor
namespace Go.Proofs.YtaabgmbjmfjdjaaGreatDoor
open Go Go.RowKit Go.Lib Go.Sort
def InsPost (w0:World) (blk off:Nat) (lt:FileB→FileB→Bool) (a b:Nat) (d:Array FileB) (e:Ending) (w':World):Prop:=
 e=.returned (.tuple #[])∧∃d',SWF w0 blk off d' w'∧PermIn a b d d'∧SortedIn lt a b d'
set_option maxHeartbeats 4000000 in
set_option maxRecDepth 100000 in
theorem stable_any (cf:FileB→FileB→Int) (g:Nat) (cb:Array Value) (eg:∀args w,(callFunc g args).run Tryz.prog w=.ok (.enter g args) w) (hO:SWO (ltOf cf)) (blk off cap:Nat) (d0:Array FileB) (w0:World)
  (hC:CmpLays Tryz.prog g cb encFile 3 cf blk off d0.size w0) (R:RowF w0 blk off d0) (hsz:d0.size<1000000)
  (hI:∀(a b:Nat) (d:Array FileB) (w:World),d.size=d0.size→SWF w0 blk off d w→a≤b→b≤d.size→Calls Tryz.prog 240 #[.slice (some ⟨blk,off,none⟩) d.size cap,.int .i64 a,.int .i64 b,.func (.func g) #[] cb] w (InsPost w0 blk off (ltOf cf) a b d)):
  Calls Tryz.prog 219 #[.slice (some ⟨blk,off,none⟩) d0.size cap,.int .i64 d0.size,.func (.func g) #[] cb] w0 fun e w'=>e=.returned (.tuple #[])∧∃d',SWF w0 blk off d' w'∧PermIn 0 d0.size d0 d'∧SortedIn (ltOf cf) 0 d0.size d':=by
 have S0:Hid (SWF w0 blk off d0 w0):=SWK.start R.hH;have HI:Aside _:=hI;have HM:Aside _:=symMerge_all cf g cb eg hO blk off cap d0 w0 hC R (by omega);obtain ⟨n,hn⟩:∃n,d0.size=n:=⟨_,rfl⟩;have P0:Hid (PermIn 0 n d0 d0):=permIn_refl d0 0 n;have HN:=Lib.hid hn;have mixed:Tryz.prog.follows .mixedOrders=true:=by kernel_rfl
 rw [hn] at hsz⊢;clear hC R hO hI hn;go_enter Tryz.func219,Tryz.ntmps219;go_wp2_with fail
 go_loopg [7,8] n (fun g1 va vb wr=>∃(a:Nat) (dk:Array FileB),va=.int .i64 a∧vb=.int .i64 ((a:Int)+20)∧a≤n∧n-a≤g1∧Hid (20∣a)∧Hid (dk.size=n)∧Hid (SWF w0 blk off dk wr)∧Hid (PermIn 0 n d0 dk)∧Hid (BlkIn (ltOf cf) 20 n 0 a dk))
 case atStart=>exact ⟨0,d0,rfl,rfl,Nat.zero_le _,Nat.le_refl _,Nat.dvd_zero 20,HN,S0,P0,BlkIn.none _ _ _ _ _⟩
 case round=>
  clear S0;obtain ⟨a,dk,rfl,rfl,han,hg,HA,HK,S1,H1,H2⟩:=hrel;by_cases hlt:a+20≤n
  ·have hlt2:(a:Int)+20≤(n:Int):=by omega
   have C:=HI.out a (a+20) dk wr (HK.out.trans HN.out.symm) S1.out (by omega) (by rw [HK.out];exact hlt);rw [HK.out,show ((a+20:Nat):Int)=(a:Int)+20 by omega] at C;have C:=Lib.hid C;go_wp2_with fail;refine C.out.mono ?_;rintro e w2 ⟨rfl,d1,S2,G1,G2⟩;have S2:=Lib.hid S2;have hd1:=Lib.hid (G1.1.trans HK.out);have F1:Hid (PermIn 0 n d0 d1):=permIn_trans _ _ _ _ _ H1.out (permIn_mono _ _ a (a+20) 0 n (Nat.zero_le _) hlt (by rw [HK.out];exact Nat.le_refl _) G1);have F2:Hid (BlkIn (ltOf cf) 20 n 0 (a+20) d1):=BlkIn.next H2.out HA.out G1 G2 (by omega) (by omega)
   have F3:Hid (20∣a+20):=Nat.dvd_add HA.out (Nat.dvd_refl 20);clear G1 G2 C S1 H1 H2 HK;go_wp2_with fail;go_roundg (n- (a+20))
   case measure=>omega
   case rel=>exact ⟨a+20,d1,by go_num,by go_num,by omega,Nat.le_refl _,F3,hd1,S2,F1,F2⟩
  ·have hlt2:¬(a:Int)+20≤(n:Int):=by omega
   have C:=HI.out a n dk wr (HK.out.trans HN.out.symm) S1.out han (by rw [HK.out];exact Nat.le_refl _);rw [HK.out] at C;have C:=Lib.hid C;go_wp2_with fail;refine C.out.mono ?_;rintro e w2 ⟨rfl,d1,S2,G1,G2⟩;have S2:=Lib.hid S2;have hd1:=Lib.hid (G1.1.trans HK.out);have F1:Hid (PermIn 0 n d0 d1):=permIn_trans _ _ _ _ _ H1.out (permIn_mono _ _ a n 0 n (Nat.zero_le _) (Nat.le_refl _) (by rw [HK.out];exact Nat.le_refl _) G1);have F2:Hid (BlkIn (ltOf cf) 20 n 0 n d1):=fun x hx h1 h2=>BlkIn.next H2.out HA.out G1 G2 (by omega) (by omega) x hx h1 (by omega)
   clear G1 G2 C S1 H1 H2 HK HA han hg hlt hlt2;go_wp2_with fail
   go_loopg [6,7,8,9] n (fun g1 vbs v7 v8 v9 wr=>∃(bs:Nat) (dk:Array FileB),vbs=.int .i64 bs∧0<bs∧bs≤2*n+20∧n-bs≤g1∧Hid (dk.size=n)∧Hid (SWF w0 blk off dk wr)∧Hid (PermIn 0 n d0 dk)∧Hid (BlkIn (ltOf cf) bs n 0 n dk))
   case atStart=>exact ⟨20,d1,rfl,by omega,by omega,by omega,hd1,S2,F1,F2⟩
   case round=>
    clear S2 F1 F2 hd1;obtain ⟨bs,dk,rfl,hb0,hbn,hg,HK,S1,H1,H2⟩:=hrel;by_cases hlt:bs<n
    ·have H3:Hid (BlkIn (ltOf cf) (2*bs) n 0 0 dk):=BlkIn.none _ _ _ _ _;go_wp2_with fail
     go_loopg [7,8] n (fun g2 va vb wr=>∃(a:Nat) (dk:Array FileB),va=.int .i64 a∧vb=.int .i64 ((a:Int)+2*(bs:Int))∧a≤n∧n-a≤g2∧Hid (2*bs∣a)∧Hid (dk.size=n)∧Hid (SWF w0 blk off dk wr)∧Hid (PermIn 0 n d0 dk)∧Hid (BlkIn (ltOf cf) (2*bs) n 0 a dk)∧Hid (BlkIn (ltOf cf) bs n a n dk))
     case atStart=>exact ⟨0,dk,rfl,by go_num,Nat.zero_le _,Nat.le_refl _,Nat.dvd_zero _,HK,S1,H1,H3,H2⟩
     case round=>
      clear S1 H1 H2 H3 HK;obtain ⟨a,dk,rfl,rfl,han,hg2,HA,HK,S1,H1,H2,H3⟩:=hrel;have HB:=Lib.hid (Nat.dvd_trans (Nat.dvd_mul_left bs 2) HA.out);by_cases hlt3:a+2*bs≤n
      ·have hlt2:(a:Int)+2*(bs:Int)≤(n:Int):=by omega
       have s1:=H3.out a HB.out (Nat.le_refl _) (by omega);have s2:=H3.out (a+bs) (Nat.dvd_add HB.out (Nat.dvd_refl bs)) (by omega) (by omega);rw [show min (a+bs) n=a+bs by omega] at s1;rw [show min (a+bs+bs) n=a+2*bs by omega] at s2;have C:=HM.out (2*bs) a (a+bs) (a+2*bs) dk wr (by omega) (by omega) (by omega) (by rw [HK.out];exact hlt3) (HK.out.trans HN.out.symm) S1.out s1 s2;rw [HK.out,show ((a+bs:Nat):Int)=(a:Int)+(bs:Int) by omega,show ((a+2*bs:Nat):Int)=(a:Int)+2*(bs:Int) by omega] at C;have C:=Lib.hid C;clear s1 s2;go_wp2_with fail;refine C.out.mono ?_;rintro e w2 ⟨rfl,d1,S2,G1,G2⟩;have S2:=Lib.hid S2;have G1:=G1 a (a+2*bs) (Nat.le_refl _) (Nat.le_refl _) (by rw [HK.out];exact hlt3);have hd1:=Lib.hid (G1.1.trans HK.out);have F1:Hid (PermIn 0 n d0 d1):=permIn_trans _ _ _ _ _ H1.out (permIn_mono _ _ a (a+2*bs) 0 n (Nat.zero_le _) hlt3 (by rw [HK.out];exact Nat.le_refl _) G1);have F2:Hid (BlkIn (ltOf cf) (2*bs) n 0 (a+2*bs) d1):=BlkIn.next H2.out HA.out G1 G2 (by omega) (by omega)
       have F3:Hid (2*bs∣a+2*bs):=Nat.dvd_add HA.out (Nat.dvd_refl _);have F4:Hid (BlkIn (ltOf cf) bs n (a+2*bs) n d1):=BlkIn.rest H3.out (by omega) G1;clear G1 G2 C S1 H1 H2 H3 HK HB;go_wp2_with fail;go_roundg (n- (a+2*bs))
       case measure=>omega
       case rel=>exact ⟨a+2*bs,d1,by go_num,by go_num,by omega,Nat.le_refl _,F3,hd1,S2,F1,F2,F4⟩
      ·have hlt2:¬(a:Int)+2*(bs:Int)≤(n:Int):=by omega
       by_cases hm:a+bs<n
       ·have hm2:(a:Int)+(bs:Int)<(n:Int):=by omega
        have s1:=H3.out a HB.out (Nat.le_refl _) (by omega);have s2:=H3.out (a+bs) (Nat.dvd_add HB.out (Nat.dvd_refl bs)) (by omega) (by omega);rw [show min (a+bs) n=a+bs by omega] at s1;rw [show min (a+bs+bs) n=n by omega] at s2;have C:=HM.out (2*bs) a (a+bs) n dk wr (by omega) (by omega) hm (by rw [HK.out];exact Nat.le_refl _) (HK.out.trans HN.out.symm) S1.out s1 s2;rw [HK.out,show ((a+bs:Nat):Int)=(a:Int)+(bs:Int) by omega] at C;have C:=Lib.hid C;clear s1 s2;go_wp2_with fail;refine C.out.mono ?_;rintro e w2 ⟨rfl,d1,S2,G1,G2⟩;have S2:=Lib.hid S2;have G1:=G1 a n (Nat.le_refl _) (Nat.le_refl _) (by rw [HK.out];exact Nat.le_refl _);have hd1:=Lib.hid (G1.1.trans HK.out);have F1:Hid (PermIn 0 n d0 d1):=permIn_trans _ _ _ _ _ H1.out (permIn_mono _ _ a n 0 n (Nat.zero_le _) (Nat.le_refl _) (by rw [HK.out];exact Nat.le_refl _) G1);have F2:Hid (BlkIn (ltOf cf) (bs*2) n 0 n d1):=fun x hx h1 h2=>by
         rw [Nat.mul_comm] at hx⊢;exact BlkIn.next H2.out HA.out G1 G2 (by omega) (by omega) x hx h1 (by omega)
        clear G1 G2 C S1 H1 H2 H3 HK HB HA;go_wp2_with fail;go_roundg (n-bs*2)
        case measure=>omega
        case rel=>exact ⟨bs*2,d1,by go_num,by omega,by omega,Nat.le_refl _,hd1,S2,F1,F2⟩
       ·have hm2:¬(a:Int)+(bs:Int)<(n:Int):=by omega
        have F2:Hid (BlkIn (ltOf cf) (bs*2) n 0 n dk):=fun x hx h1 h2=>by
         rw [Nat.mul_comm] at hx⊢;by_cases ha:a<n
         ·have s1:=H3.out a HB.out (Nat.le_refl _) ha;exact BlkIn.next H2.out HA.out (permIn_refl dk a n) (sorted_part s1 (Nat.le_refl _) (by omega)) (by omega) (by omega) x hx h1 (by omega)
         ·exact H2.out x hx h1 (by omega)
        clear H2 H3 HB HA;go_wp2_with fail;go_roundg (n-bs*2)
        case measure=>omega
        case rel=>exact ⟨bs*2,dk,by go_num,by omega,by omega,Nat.le_refl _,HK,S1,H1,F2⟩
    ·have s:=H2.out 0 (Nat.dvd_zero bs) (Nat.le_refl _);have R3:Hid (SortedIn (ltOf cf) 0 n dk):=by
      by_cases h0:0<n
      ·have:=s h0;rwa [show min (0+bs) n=n by omega] at this
      ·exact sorted_none (by omega) _
     clear s H2;go_wp2_with fail
     go_end0
     exact ⟨rfl,dk,S1.out,H1.out,R3.out⟩
end Go.Proofs.YtaabgmbjmfjdjaaGreatDoor
namespace Go.Proofs
open Go.Shelf
def Tryz.laysF20_ren:Go.Shelf.Ren:=⟨fun|20=>240|n=>n,fun|24=>170|22=>124|3=>3|25=>205|4=>4|0=>0|n=>n,fun|n=>n⟩
theorem Tryz.laysF20:Go.Proofs.SlLaysF0.n20 Tryz.prog Tryz.laysF20_ren:={
 mixed:=by kernel_rfl
 f20:=⟨Tryz.f240.name,by decide,Tryz.func240.trans (congrArg some (by kernel_rfl))⟩
 t0:=Tryz.underlying0
 a0:=Tryz.isAgg0
 z0:=Tryz.sizeOf0
 v0:=Tryz.zeroValue0
 t3:=Tryz.underlying3
 a3:=Tryz.isAgg3
 z3:=Tryz.sizeOf3
 v3:=Tryz.zeroValue3
 t4:=Tryz.underlying4
 a4:=Tryz.isAgg4
 z4:=Tryz.sizeOf4
 v4:=Tryz.zeroValue4
 t22:=Tryz.underlying124
 a22:=Tryz.isAgg124
 z22:=Tryz.sizeOf124
 v22:=Tryz.zeroValue124
 t25:=Tryz.underlying205
 a25:=Tryz.isAgg205
 z25:=Tryz.sizeOf205
 v25:=Tryz.zeroValue205}
end Go.Proofs
namespace Go.Proofs.YtaabgmbjmfjdjaaGreatDoor
open Go Go.Shelf Go.RowKit Go.Lib Go.Sort
theorem insertion_any (cf:FileB→FileB→Int) (g:Nat) (cb:Array Value) (eg:∀args w,(callFunc g args).run Tryz.prog w=.ok (.enter g args) w) (hO:SWO (ltOf cf)) (blk off cap:Nat) (d0:Array FileB) (w0:World)
  (hC:CmpLays Tryz.prog g cb encFile 3 cf blk off d0.size w0) (R:RowF w0 blk off d0) (hsz:d0.size<1000000) (a b:Nat) (d:Array FileB) (w:World) (hs:d.size=d0.size) (S:SWF w0 blk off d w) (hab:a≤b) (hb:b≤d.size):
  Calls Tryz.prog 240 #[.slice (some ⟨blk,off,none⟩) d.size cap,.int .i64 a,.int .i64 b,.func (.func g) #[] cb] w (InsPost w0 blk off (ltOf cf) a b d):=by
 have hins:=insertionSort_holds hO d a b hab hb;have hC':CmpLays Tryz.prog g cb encFile 3 cf blk off d.size w:=fun m os dk hdk x y=>by
  obtain ⟨n0,os0,rfl⟩:=S;rw [sortWorldK_on encFile 3 w0 blk off n0 m d dk os0 os R.hblk hdk];exact hC _ _ dk (hdk.trans hs) x y
 refine (AnyQ.insertionSortCmpFunc (P:=Tryz.prog) (ρ:=Tryz.laysF20_ren) Tryz.laysF20 3 Tryz.isAgg170 Tryz.sizeOf170 encFile R.hk R.h1 cf g cb blk off cap a b d w eg hC' (S.holds R.hblk R.hH hs) (S.lt R.hblk) hab hb (by omega)).mono ?_;rintro e w' ⟨rfl,n,os,rfl⟩;exact ⟨rfl,_,S.on R.hblk n _ os hins.1.1,hins.1,hins.2⟩
theorem sortStable_any (cf:FileB→FileB→Int) (g:Nat) (cb:Array Value) (eg:∀args w,(callFunc g args).run Tryz.prog w=.ok (.enter g args) w) (hO:SWO (ltOf cf)) (blk off cap:Nat) (d0:Array FileB) (w0:World)
  (hC:CmpLays Tryz.prog g cb encFile 3 cf blk off d0.size w0) (R:RowF w0 blk off d0) (hsz:d0.size<1000000):
  Calls Tryz.prog 185 #[.slice (some ⟨blk,off,none⟩) d0.size cap,.func (.func g) #[] cb] w0 fun e w'=>e=.returned (.tuple #[])∧∃d',SWF w0 blk off d' w'∧PermIn 0 d0.size d0 d'∧SortedIn (ltOf cf) 0 d0.size d':=by
 have C:=Lib.hid (stable_any cf g cb eg hO blk off cap d0 w0 hC R hsz (fun a b d w hs S hab hb=>insertion_any cf g cb eg hO blk off cap d0 w0 hC R hsz a b d w hs S hab hb));clear hO hC R;go_enter Tryz.func185,Tryz.ntmps185;go_wp2_with fail;refine C.out.mono ?_;rintro e w' ⟨rfl,d',h1,h2,h3⟩;go_wp2_with fail
 go_end0
 exact ⟨rfl,d',h1,h2,h3⟩
end Go.Proofs.YtaabgmbjmfjdjaaGreatDoor
