import Derived.Test.YtaabgmbjmfjdjaaGreatDoorJScAsideX1
namespace Go.Proofs.YtaabgmbjmfjdjaaGreatDoor
open Go Go.RowKit
set_option maxHeartbeats 8000000
set_option maxRecDepth 100000
theorem scriptAnew_walk {E:Nat→Addr} {w:World} (hE:FtEnv E w) (v:Value) (l:List ByteArray) (cut:Int) (hv:RowP w v l):
  Calls Tryz.prog 3 #[v,.int .i64 cut] w fun e w'=>e=.returned (.bool true)∧Below w.heap.size w w':=by
 have HE:=Lib.hid hE;have HV:=Lib.hid hv;have C:=Lib.hid (hello_any hE);obtain ⟨ao,cap,rfl,h1,h2,-⟩:=hv;clear hE;go_enter Tryz.func3,Tryz.ntmps3;go_wp2_with fail;refine C.out.mono ?_;clear C;rintro e w1 ⟨rfl,hb1⟩;have C:Hid (Calls Tryz.prog 6 #[.slice ao l.length cap,.int .i64 50] w1 (LLPost 50 l w1)):=longLines_any _ l 50 (by omega) w1 (HV.out.ext hb1);go_wp2_with fail;refine C.out.mono ?_;clear C;rintro e w2 ⟨rfl|⟨rfl,hl,HZ⟩,rfl⟩
 ·go_wp2_with fail;go_ret;exact ⟨rfl,hb1⟩
 by_cases hc0:cut<0
 ·go_wp2_with fail;go_ret;exact ⟨rfl,hb1⟩
 by_cases hc1:(l.length:Int)<cut
 ·go_wp2_with fail;go_ret;exact ⟨rfl,hb1⟩
 obtain ⟨c,rfl⟩:∃c:Nat,cut=(c:Int):=⟨cut.toNat,by omega⟩;have hcl:c≤l.length:=by omega
 have d1:decide ((c:Int)<0)=false:=decide_eq_false (by omega);have d2:decide ((l.length:Int)<(c:Int))=false:=decide_eq_false (by omega);have d3:decide (l.length<c)=false:=decide_eq_false (by omega);go_wp2_with fail;clear d1 d2 d3;go_loopw [6,7,8] (fun xv yv i wr=>∃(k:Nat) (xs ys:List ByteArray),k≤l.length∧i=.int .i64 k∧Hid (xs=l.take k)∧Hid (ys=spl l c k)∧Hid (wr.ownsRow w.heap.size 9 1 xv xs.length (xs.map Value.string))∧Hid (wr.ownsRow w.heap.size 9 1 yv ys.length (ys.map Value.string))∧Hid (Aside xv yv)∧Hid (∀z∈l.take k,(cutL 32 (bl z)).headD []≠[102,97,105,108])∧Below w.heap.size w wr) (fun _ _ i _=>l.length- (intOf i).toNat)
 case atStart=>exact ⟨0,[],[],Nat.zero_le _,rfl,rfl,rfl,World.ownsRow_nil _ _ _ _,World.ownsRow_nil _ _ _ _,(fun g h=>by cases h),(fun z h=>by cases h),hb1⟩
 case round=>
  clear hb1 hc0 hc1;obtain ⟨k,xs,ys,hk,rfl,HX,HY,HOX,HOY,HAS,HNF,hb⟩:=hrel;have HXL0:Hid (xs.length=k):=by show _=_;rw [HX.out,List.length_take];omega
  have hxn:xs.length≤1000:=by have:=HXL0.out;omega
  have hyl:ys.length≤k+1:=by rw [HY.out];exact spl_lenk
  by_cases hlt:k<l.length
  ·obtain ⟨b,off,rfl,hbl,hcell⟩:=(HV.out.ext hb).get k hlt;have hzm:l[k].size≤200:=HZ.out _ (List.getElem_mem hlt);have HT:Hid (l.take (k+1)=l.take k++[l[k]]):=by show _=_;rw [List.take_add_one,List.getElem?_eq_getElem hlt];rfl
   have HLO:Hid (k+1≤c→spl l c (k+1)=spl l c k++[l[k]]):=fun h=>spl_low h hlt
   have HAT:Hid (k=c→spl l c (k+1)=(spl l c k++[agB])++[l[k]]):=fun h=>by subst h;exact spl_at hlt
   have HHI:Hid (c<k→spl l c (k+1)=spl l c k++[l[k]]):=fun h=>spl_high h hlt
   obtain ⟨z,hz⟩:∃z,l[k]=z:=⟨_,rfl⟩;rw [hz] at hcell hzm HT HLO HAT HHI;have HZK:=Lib.hid hz;clear hz;have C:=Lib.hid (refCut_any z 32 wr (by omega));go_wp2_with fail;refine C.out.mono ?_;clear C;rintro e w3 ⟨wv,zs,rfl,HR,HZS,hzl,hb3⟩;have hb3':=hb.trans (hb3.mono hb.size);have HOX3:=Lib.hid (owns_below HOX.out hb3);have HOY3:=Lib.hid (owns_below HOY.out hb3);have cz:w3.cell? ⟨b,off+k,none⟩=some (.string z):=(hb3.cell (p:=⟨b,off+k,none⟩) hbl).trans hcell;have hbl3:b<w3.heap.size:=Nat.lt_of_lt_of_le hbl hb3.size;clear HOX HOY hcell hb3 hb hbl hzl;obtain ⟨wo,wc,rfl,r1,r2,H3⟩:=HR.out.parts;clear HR;obtain ⟨z0,zt,rfl⟩:∃z0 zt,zs=z0::zt:=by
    match zs,HZS with
    | [],h=>exact absurd h.out.symm (cutL_ne 32 (bl z))
    |z0::zt,_=>exact ⟨z0,zt,rfl⟩
   obtain ⟨wb,woff,rfl,hwb,hwc⟩:=H3 0 (by simp);have c0:w3.cell? ⟨wb,woff,none⟩=some (.string z0):=hwc 0 (by simp);clear H3 hwc;obtain ⟨X,hX⟩:∃X:Bool,(z0.toList== [102,97,105,108])=X:=⟨_,rfl⟩;have HF:Hid (X=false→bl z0≠[102,97,105,108]):=fun h e=>by
    rw [h,Lib.toList_data,show z0.data.toList=[102,97,105,108] from e] at hX;exact absurd hX (by decide)
   cases X;rotate_left
   ·clear HF;go_wp2_with fail;go_ret;exact ⟨rfl,hb3'⟩
   have HNF2:Hid (∀y∈l.take (k+1),(cutL 32 (bl y)).headD []≠[102,97,105,108]):=fun y hy=>by
    rw [HT.out] at hy;rcases List.mem_append.1 hy with h|h
    ·exact HNF.out y h
    ·rcases List.mem_singleton.1 h with rfl
     rw [←HZS.out];exact HF.out rfl
   have HX2:Hid (xs++[z]=l.take (k+1)):=by show _=_;rw [HT.out,HX.out]
   have hB:=hb3'.size;clear HNF HZS HT HF;by_cases hkc:k=c
   ·subst hkc;have HY2:Hid ((ys++[agB])++[z]=spl l k (k+1)):=by show _=_;rw [HAT.out rfl,HY.out]
    clear HLO HAT HHI HX HY;go_wp2_with (at_builtin;refine push_side (x:=agB) rfl _ _ rfl rfl rfl HOY3.out (by omega) hB ?_);intro y4 w4 HO4 hb4 HS4;obtain ⟨HOX4,HA4⟩:=HS4.out _ _ HOX3.out HAS.out.symm;have HOX4:=Lib.hid HOX4;have HA4:=Lib.hid HA4.symm;have hb4':=hb3'.trans hb4;obtain ⟨b4,off4,e4,hbl4,cz4⟩:=(HV.out.ext hb4').get k hlt
    cases e4;rw [HZK.out] at cz4;have hB4:=hb4'.size;have HOY4:Hid (w4.ownsRow w.heap.size 9 1 y4 (ys++[agB]).length ((ys++[agB]).map Value.string)):=by show World.ownsRow _ _ _ _ _ _ _;simpa using HO4.out
    have hyl4:(ys++[agB]).length≤1000:=by rw [List.length_append];simp;omega
    clear HO4 HS4 HOX3 HOY3 HAS cz hbl3 c0 hb4 hb3';go_wp2_with (at_builtin;refine push_side (x:=z) rfl _ _ rfl rfl rfl HOX4.out (by omega) hB4 ?_);intro x5 w5 HO5 hb5 HS5;obtain ⟨HOY5,HA5⟩:=HS5.out _ _ HOY4.out HA4.out;have HOY5:=Lib.hid HOY5;have HA5:=Lib.hid HA5;have hb5':=hb4'.trans hb5;have HOX5:Hid (w5.ownsRow w.heap.size 9 1 x5 (xs++[z]).length ((xs++[z]).map Value.string)):=by show World.ownsRow _ _ _ _ _ _ _;simpa using HO5.out
    have hB5:=hb5'.size;obtain ⟨b4,off4,e4,hbl5,cz5⟩:=(HV.out.ext hb5').get k hlt
    cases e4;rw [HZK.out] at cz5;clear HO5 HS5 HOX4 HOY4 HA4 cz4 hbl4 hb5 hb4' hB4;go_wp2_with (at_builtin;refine push_side (x:=z) rfl _ _ rfl rfl rfl HOY5.out (by omega) hB5 ?_);intro y6 w6 HO6 hb6 HS6;obtain ⟨HOX6,HA6⟩:=HS6.out _ _ HOX5.out HA5.out.symm;have HOX6:=Lib.hid HOX6;have HA6:=Lib.hid HA6.symm;have hb6':=hb5'.trans hb6;have HOY6:Hid (w6.ownsRow w.heap.size 9 1 y6 ((ys++[agB])++[z]).length (((ys++[agB])++[z]).map Value.string)):=by show World.ownsRow _ _ _ _ _ _ _;simpa using HO6.out
    clear HO6 HS6 HOX5 HOY5 HA5 cz5 hbl5 hb6 hb5' hB5;go_wp2_with fail;go_roundw
    case rel=>exact ⟨k+1,xs++[z],(ys++[agB])++[z],by omega,by go_num,HX2,HY2,HOX6,HOY6,HA6,HNF2,hb6'⟩
    case measure=>simp [intOf];omega
   ·have HY2:Hid (ys++[z]=spl l c (k+1)):=by
     show _=_;rcases Nat.lt_or_gt_of_ne hkc with h|h
     ·rw [HLO.out h,HY.out]
     ·rw [HHI.out h,HY.out]
    clear HLO HAT HHI HX HY;go_wp2_with (at_builtin;refine push_side (x:=z) rfl _ _ rfl rfl rfl HOX3.out (by omega) hB ?_);intro x5 w5 HO5 hb5 HS5;obtain ⟨HOY5,HA5⟩:=HS5.out _ _ HOY3.out HAS.out;have HOY5:=Lib.hid HOY5;have HA5:=Lib.hid HA5;have hb5':=hb3'.trans hb5;have HOX5:Hid (w5.ownsRow w.heap.size 9 1 x5 (xs++[z]).length ((xs++[z]).map Value.string)):=by show World.ownsRow _ _ _ _ _ _ _;simpa using HO5.out
    have hB5:=hb5'.size;obtain ⟨b4,off4,e4,hbl5,cz5⟩:=(HV.out.ext hb5').get k hlt
    cases e4;rw [HZK.out] at cz5;clear HO5 HS5 HOX3 HOY3 HAS cz hbl3 c0 hb5 hb3';go_wp2_with (at_builtin;refine push_side (x:=z) rfl _ _ rfl rfl rfl HOY5.out (by omega) hB5 ?_);intro y6 w6 HO6 hb6 HS6;obtain ⟨HOX6,HA6⟩:=HS6.out _ _ HOX5.out HA5.out.symm;have HOX6:=Lib.hid HOX6;have HA6:=Lib.hid HA6.symm;have hb6':=hb5'.trans hb6;have HOY6:Hid (w6.ownsRow w.heap.size 9 1 y6 (ys++[z]).length ((ys++[z]).map Value.string)):=by show World.ownsRow _ _ _ _ _ _ _;simpa using HO6.out
    clear HO6 HS6 HOX5 HOY5 HA5 cz5 hbl5 hb6 hb5' hB5;go_wp2_with fail;go_roundw
    case rel=>exact ⟨k+1,xs++[z],ys++[z],by omega,by go_num,HX2,HY2,HOX6,HOY6,HA6,HNF2,hb6'⟩
    case measure=>simp [intOf];omega
  ·obtain rfl:k=l.length:=by omega
   have HXL:Hid (xs=l):=by show _=_;rw [HX.out,List.take_of_length_le (Nat.le_refl _)]
   have HNL:Hid (∀z∈l,(cutL 32 (bl z)).headD []≠[102,97,105,108]):=by have:=HNF.out;rwa [List.take_of_length_le (Nat.le_refl _)] at this
   have HYL:Hid (ys.length=if c<l.length then l.length+1 else l.length):=by show _=_;rw [HY.out];exact spl_len
   have C:=Lib.hid (scRun_any u6 xs wr (RowP.own HOX.out) (by have:=HXL0.out;omega) (fun z hz=>by have:=HZ.out z (by rw [←HXL.out];exact hz);omega) (HE.out.ext hb));obtain ⟨xo,xc,rfl⟩:=row_form HOX.out;obtain ⟨yo,yc,rfl⟩:=row_form HOY.out;clear HX HNF;go_wp2_with fail;refine C.out.mono ?_;clear C HOX HAS;rintro e w3 ⟨⟨av,us,rfl,HA,HOA⟩,hb3⟩;have hb3':=hb.trans (hb3.mono hb.size);have C:=Lib.hid (scRun_any _ ys w3 ((RowP.own HOY.out).ext hb3) (by omega) (fun z hz=>by
    rw [HY.out] at hz;rcases spl_mem hz with h|rfl
    ·have:=HZ.out z h;omega
    ·decide) (HE.out.ext hb3'))
   have hul:us.length=xs.length:=by have:=congrArg List.length HA.out;simpa [linesS_len] using this
   have HUL:=Lib.hid hul;have HRA:=Lib.hid (RowP.own HOA.out);obtain ⟨ao3,cap3,rfl⟩:=row_form HOA.out;rw [hul] at HRA⊢;clear hul;clear HOA HOY hb3 hb;go_wp2_with fail;refine C.out.mono ?_;clear C;rintro e w4 ⟨⟨bv,vs,rfl,HB,HOB⟩,hb4⟩;have hb4':=hb3'.trans (hb4.mono hb3'.size);have hvl:vs.length=ys.length:=by have:=congrArg List.length HB.out;simpa [linesS_len] using this
   have HRB:=Lib.hid (RowP.own HOB.out);have HRA4:=Lib.hid (HRA.out.ext hb4);obtain ⟨bo3,bcap3,rfl⟩:=row_form HOB.out;rw [hvl] at HRB⊢;have HVL:=Lib.hid hvl;clear hvl;have HQ:=Lib.hid (spl_ans (c:=c) HNL.out us vs (by rw [HA.out,HXL.out]) (by rw [HB.out,HY.out]));clear HOB HRA HA HB HY HXL HNL hb4 hb3';go_wp2_with fail;go_loopw [14] (fun i wr=>∃j:Nat,j≤xs.length∧i=.int .i64 j∧Below w4.heap.size w4 wr) (fun i _=>xs.length- (intOf i).toNat)
   case atStart=>exact ⟨0,Nat.zero_le _,rfl,Below.refl _ _⟩
   case round=>
    obtain ⟨j,hj,rfl,hbr⟩:=hrel;have hbr':=hb4'.trans (hbr.mono hb4'.size);by_cases hlt:j<xs.length
    ·obtain ⟨ab,aoff,rfl,habl,ca⟩:=(HRA4.out.ext hbr).get j (by rw [HUL.out];exact hlt);have hul:=HUL.out;have hvl:=HVL.out;obtain ⟨q1,q2⟩:=HQ.out j (by omega);obtain ⟨t,ht⟩:∃t,us[j]=t:=⟨_,rfl⟩;have q0:us[j]? =some t:=by rw [List.getElem?_eq_getElem (by omega),ht]
     rw [ht] at ca;clear ht;by_cases hc:c<l.length
     ·have hyx:ys.length=xs.length+1:=by rw [HYL.out,if_pos hc,HXL0.out]
      have hgt:xs.length<ys.length:=by omega
      have hgt2:(xs.length:Int)<(ys.length:Int):=by omega
      by_cases hcj:c≤j
      ·obtain ⟨bb,boff,rfl,hbbl,cb⟩:=(HRB.out.ext hbr).get (j+1) (by omega);have hjy:j+1<ys.length:=by omega
       have e:vs[j+1]=t:=by
        have h:=(q1 hc hcj).trans q0;rw [List.getElem?_eq_getElem (by omega)] at h;exact Option.some.inj h
       rw [e] at cb;clear e q1 q2 q0 hyx hul hvl;go_wp2_with fail;go_quiet (fail);go_wp2_with fail;go_roundw
       case rel=>exact ⟨j+1,by omega,by go_num,hbr.trans (below_drewN _ _ _)⟩
       case measure=>simp [intOf];omega
      ·obtain ⟨bb,boff,rfl,hbbl,cb⟩:=(HRB.out.ext hbr).get j (by omega);have hjy:j<ys.length:=by omega
       have e:vs[j]=t:=by
        have h:=(q2 (fun _=>by omega)).trans q0;rw [List.getElem?_eq_getElem (by omega)] at h;exact Option.some.inj h
       rw [e] at cb;clear e q1 q2 q0 hyx hul hvl;go_wp2_with fail;go_quiet (fail);go_wp2_with fail;go_roundw
       case rel=>exact ⟨j+1,by omega,by go_num,hbr.trans (below_drewN _ _ _)⟩
       case measure=>simp [intOf];omega
     ·have hyx:ys.length=xs.length:=by rw [HYL.out,if_neg hc,HXL0.out]
      have hgt:¬xs.length<ys.length:=by omega
      obtain ⟨bb,boff,rfl,hbbl,cb⟩:=(HRB.out.ext hbr).get j (by omega);have hjy:j<ys.length:=by omega
      have e:vs[j]=t:=by
       have h:=(q2 (fun h=>absurd h hc)).trans q0;rw [List.getElem?_eq_getElem (by omega)] at h;exact Option.some.inj h
      rw [e] at cb;clear e q1 q2 q0 hyx hul hvl;go_wp2_with fail;go_quiet (fail);go_wp2_with fail;go_roundw
      case rel=>exact ⟨j+1,by omega,by go_num,hbr.trans (below_drewN _ _ _)⟩
      case measure=>simp [intOf];omega
    ·go_wp2_with fail;go_ret;exact ⟨rfl,hbr'⟩
end Go.Proofs.YtaabgmbjmfjdjaaGreatDoor
