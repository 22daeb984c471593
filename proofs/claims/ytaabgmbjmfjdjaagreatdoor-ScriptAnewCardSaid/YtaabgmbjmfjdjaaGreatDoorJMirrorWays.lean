import Derived.Test.YtaabgmbjmfjdjaaGreatDoorJNetPlainEtc
namespace Go.Proofs.YtaabgmbjmfjdjaaGreatDoor
open Go Go.RowKit
set_option maxHeartbeats 4000000
set_option maxRecDepth 100000
theorem has_bl (zs:List ByteArray) (x:ByteArray):Lib.containsS zs x=(zs.map bl).contains (bl x):=by
 rw [Bool.eq_iff_iff,Lib.containsS_iff,List.contains_iff_mem];constructor
 ·intro h;exact List.mem_map.2 ⟨x,h,rfl⟩
 ·intro h;obtain ⟨z,hz,e⟩:=List.mem_map.1 h;rw [←blInj e];exact hz
theorem contains_any {w:World} {v:Value} {zs:List ByteArray} (hv:Row encStr 1 w v zs) (hn:zs.length≤1000000) (x:ByteArray):
  Calls Tryz.prog 181 #[v,.string x] w fun e w'=>e=.returned (.bool ((zs.map bl).contains (bl x)))∧w'=w:=by
 rcases hv.one with ⟨rfl,rfl⟩|⟨b,off,cap,rfl,h1,h2,h3,h4⟩
 ·exact Tryz.slices_Contains_string_empty none 0 x w
 ·refine (Tryz.slices_Contains_string b off zs.length cap zs x w (Nat.le_refl _) (by omega) ?_).mono ?_
  ·intro j hj;rw [h4 j hj];simp [List.getD,List.getElem?_eq_getElem hj]
  ·rintro e w' ⟨rfl,rfl⟩;rw [List.take_of_length_le (Nat.le_refl _),has_bl];exact ⟨rfl,rfl⟩
def waysEr (l:List RuleL) (s:List UInt8):Er:=if (rulesEr l).code=0 then ⟨linkE s,none⟩ else rulesEr l
def WaysPost (E:Nat→Addr) (l:List RuleB) (s:ByteArray) (w:World) (e:Ending) (w':World):Prop:=
 (∃ov ev xs,e=.returned (.tuple #[ov,ev])∧Hid (IsErr E w' ev (waysEr (l.map ruleOf) (bl s)))∧Hid (Row encStr 1 w' ov xs)∧
  Hid (xs.map bl=if (waysEr (l.map ruleOf) (bl s)).code=0 then waysOut (l.map ruleOf) (bl s) else [])∧xs.length≤20)∧Below w.heap.size w w'
theorem WaysPost.bad {E:Nat→Addr} {l:List RuleB} {s:ByteArray} {w w':World} {ev:Value} (h:Hid (IsErr E w' ev (waysEr (l.map ruleOf) (bl s)))) (h0:(waysEr (l.map ruleOf) (bl s)).code≠0) (hb:Below w.heap.size w w'):
  WaysPost E l s w (.returned (.tuple #[.slice none 0 0,ev])) w':=
 ⟨⟨_,ev,[],rfl,h,Row.nil _ _ _,by show _=_;rw [if_neg h0];rfl,Nat.zero_le _⟩,hb⟩
def KeyAt (l:List RuleB) (i:Nat) (kv:Value) (acc:Option RuleL):Prop:=
 (kv=.int .i64 (-1)∧acc=none)∨∃k:Nat,k<i∧kv=.int .i64 k∧∃h:k<l.length,acc=some (ruleOf l[k])
theorem Tryz.infoW:(Tryz.prog.info? 9).map (fun i=>(i.zero,i.size,i.bytes))=some (some (.string ⟨#[]⟩),1,16):=by kernel_rfl
theorem flatStr (l:List ByteArray):l.flatMap encStr=l.map Value.string:=by
 induction l with
 |nil=>rfl
 |cons x l ih=>rw [List.flatMap_cons,ih];rfl
theorem row_of_own {w:World} {base:Nat} {v:Value} {xs:List ByteArray} (h:w.ownsRow base 9 1 v xs.length (xs.map Value.string)):Row encStr 1 w v xs:=
 Row.of_owns (enc:=encStr) (base:=base) (e:=9) (fun _=>rfl) (by rw [flatStr];exact h)
theorem ways_any {E:Nat→Addr} (v:Value) (l:List RuleB) (s:ByteArray) (w:World) (hl:l.length≤1000) (hs:∀r∈l,Small r) (hss:s.size≤120) (hv:RulesRow w v l) (hE:LEnv E w):
  Calls Tryz.prog 206 #[v,.string s] w (WaysPost E l s w):=by
 obtain ⟨i0,hi0,hz0,hz1,hz2⟩:=info_parts Tryz.infoW;have C:=Lib.hid (mirrorCheck_any v l w hl (fun r hr=>(hs r hr).fair) hv hE);obtain ⟨ao,cap,rfl,h1,h2,H3⟩:=hv;have HM:=Lib.hid H3;have HS:=Lib.hid hs;have HE:=Lib.hid hE;clear H3 hs hE;go_enter Tryz.func206,Tryz.ntmps206;go_wp2_with fail;refine C.out.mono ?_;clear C;intro e w1 hpost;unfold CheckPost at hpost;obtain ⟨⟨ev,rfl,HV⟩,b1⟩:=hpost;by_cases h0:(rulesEr (l.map ruleOf)).code=0
 ·have hev:ev=.nilIface:=by
   have h:=HV.out;generalize rulesEr (l.map ruleOf)=er at h h0;obtain ⟨c,a⟩:=er;simp only at h0;subst h0;exact h.nil_inv
  subst hev;have HW:Hid (waysEr (l.map ruleOf) (bl s)=⟨linkE (bl s),none⟩):=by show _=_;unfold waysEr;rw [if_pos h0]
  clear HV h0;have C:=Lib.hid (linkCheck_any s w1 (by omega) (HE.out.ext b1));go_wp2_with fail;refine C.out.mono ?_;clear C;rintro e w2 ⟨rfl,hb⟩;have b2:=b1.trans (hb.mono b1.size);clear hb b1;have hle:=linkE_le (bl s);obtain ⟨c,hc⟩:∃c,linkE (bl s)=c:=⟨_,rfl⟩;rw [hc] at hle⊢
  cases c with
  |succ c=>
   rw [show errV E (c+1)=sentV E c from rfl];have HX:Hid (waysEr (l.map ruleOf) (bl s)=⟨c+1,none⟩):=by show _=_;rw [HW.out,hc]
   clear hc;go_wp2_with fail;go_ret2;exact WaysPost.bad (by show IsErr _ _ _ _;rw [HX.out];exact IsErr.base E _ c (by omega)) (by rw [HX.out];simp) b2
  |zero=>
   rw [show errV E 0=.nilIface from rfl];have HX:Hid (waysEr (l.map ruleOf) (bl s)=⟨0,none⟩):=by show _=_;rw [HW.out,hc]
   clear hc HW hle;go_wp2_with fail;go_loopw [8,28] (fun kv i wr=>∃(k:Nat) (acc:Option RuleL),k≤l.length∧i=.int .i64 k∧KeyAt l k kv acc∧Hid (pickR (bl s) none (l.map ruleOf)=pickR (bl s) acc ((l.map ruleOf).drop k))∧Below w.heap.size w wr) (fun _ i _=>l.length- (intOf i).toNat)
   case atStart=>exact ⟨0,none,Nat.zero_le _,rfl,.inl ⟨rfl,rfl⟩,rfl,b2⟩
   case round=>
    obtain ⟨k,acc,hk,rfl,hkey,HF,hb⟩:=hrel;by_cases hlt:k<l.length
    ·obtain ⟨b,off,rfl,hbl,hcell⟩:=HM.out k hlt;obtain ⟨d1,tv,d2,d3⟩:=hcell k hlt;have cl1:=(hb.cell (p:=⟨b,off+k*2,none⟩) hbl).trans d1;have cl2:=(hb.cell (p:=⟨b,off+k*2+1,none⟩) hbl).trans d2;have HD:=Lib.hid (drop_rule l k hlt);have HT:=Lib.hid (d3.ext hb);obtain ⟨r,hr⟩:∃r,l[k]=r:=⟨_,rfl⟩;rw [hr] at cl1 HT HD;have HRR:=Lib.hid hr;have HZ:=Lib.hid (HS.out r (by rw [←hr];exact List.getElem_mem hlt));clear d1 d2 d3 hr;obtain ⟨f,ts⟩:=r;simp only at cl1;obtain ⟨ao2,cap2,rfl,_⟩:=id HT.out;have hfz:f.size≤120:=HZ.out.1;have bk:=(Below.refl wr.heap.size wr).alloc (Nat.le_refl _) (.cells #[.string f,.slice ao2 ts.length cap2] 63);have hb2:∀n,Below w.heap.size w ((wr.alloc (.cells #[.string f,.slice ao2 ts.length cap2] 63)).drewN n):=fun n=>hb.trans ((bk.trans (below_drewN _ _ n)).mono hb.size)
     have HB2:=Lib.hid hb2;clear hb2 bk;by_cases hp:Lib.hasPrefix (bl s) (bl f)=true
     ·have HH:=Lib.hid (fun W=>show Calls Tryz.prog 133 #[.string s,.string f] W (fun e w'=>e=.returned (.bool true)∧w'=W) from (Tryz.strings_HasPrefix s f W).mono (by rintro e w' ⟨rfl,rfl⟩;exact ⟨by rw [show Lib.hasPrefix s.data.toList f.data.toList=true from hp],rfl⟩));rcases hkey with ⟨rfl,rfl⟩|⟨kk,hkk,rfl,hkl,rfl⟩
      ·have HY:Hid (pickR (bl s) none (l.map ruleOf)=pickR (bl s) (some (ruleOf (f,ts))) ((l.map ruleOf).drop (k+1))):=by
        show _=_;rw [HF.out,HD.out,pickR,if_pos (by unfold takes ruleOf;rw [hp];rfl)]
       have q1:((-1:Int)<0):=by decide
       clear hp HF HD;go_wp2_with fail;go_quiet (exact Calls.quiet_of_same (HH.out _));go_wp2_with fail;go_roundw
       case rel=>exact ⟨k+1,_,by omega,by go_num,.inr ⟨k,by omega,rfl,hlt,by rw [HRR.out]⟩,HY,HB2.out _⟩
       case measure=>simp [intOf];omega
      ·obtain ⟨e1,tv2,e2,e3⟩:=hcell kk hkl;have cl3:=(hb.cell (p:=⟨b,off+kk*2,none⟩) hbl).trans e1;clear e1 e2 e3 hcell;have HQ:Hid ((ruleOf l[kk]).1.length=l[kk].1.size):=bl_length _;have HKK:=Lib.hid (show ∃h:kk<l.length,some (ruleOf l[kk])=some (ruleOf l[kk]) from ⟨hkl,rfl⟩);obtain ⟨g,hg⟩:∃g,l[kk].1=g:=⟨_,rfl⟩;rw [hg] at cl3 HQ;have hgz:g.size≤120:=by rw [←hg];exact (HS.out _ (List.getElem_mem hkl)).1
       clear hg;have cl4:(wr.alloc (.cells #[.string f,.slice ao2 ts.length cap2] 63)).cell? ⟨b,off+kk*2,none⟩=some (.string g):=by
        rw [World.cell?_alloc_lt _ _ _ (Nat.lt_of_lt_of_le hbl hb.size)];exact cl3
       have q0:decide ((kk:Int)<0)=false:=decide_eq_false (by omega);have q0':((kk:Int)<0)=False:=eq_false (by omega);by_cases hlen:g.size<f.size
       ·have HY:Hid (pickR (bl s) none (l.map ruleOf)=pickR (bl s) (some (ruleOf (f,ts))) ((l.map ruleOf).drop (k+1))):=by
         show _=_;rw [HF.out,HD.out,pickR,if_pos];unfold takes;rw [show (ruleOf (f,ts)).1=bl f from rfl,hp];simp only [Bool.true_and,decide_eq_true_eq];rw [HQ.out,bl_length];exact hlen
        clear hp HF HD HQ;go_wp2_with fail;go_quiet (exact Calls.quiet_of_same (HH.out _));go_wp2_with fail;go_roundw
        case rel=>exact ⟨k+1,_,by omega,by go_num,.inr ⟨k,by omega,rfl,hlt,by rw [HRR.out]⟩,HY,HB2.out _⟩
        case measure=>simp [intOf];omega
       ·have HY:Hid (pickR (bl s) none (l.map ruleOf)=pickR (bl s) (some (ruleOf l[kk])) ((l.map ruleOf).drop (k+1))):=by
         show _=_;rw [HF.out,HD.out,pickR,if_neg];unfold takes;rw [show (ruleOf (f,ts)).1=bl f from rfl,hp];simp only [Bool.true_and,decide_eq_true_eq];rw [HQ.out,bl_length];exact hlen
        clear hp HF HD HQ;go_wp2_with fail;go_quiet (exact Calls.quiet_of_same (HH.out _));go_wp2_with fail;go_roundw
        case rel=>exact ⟨k+1,_,by omega,by go_num,.inr ⟨kk,by omega,rfl,hkl,rfl⟩,HY,HB2.out _⟩
        case measure=>simp [intOf];omega
     ·have hp2:Lib.hasPrefix (bl s) (bl f)=false:=by simpa using hp
      have HH:=Lib.hid (fun W=>show Calls Tryz.prog 133 #[.string s,.string f] W (fun e w'=>e=.returned (.bool false)∧w'=W) from (Tryz.strings_HasPrefix s f W).mono (by rintro e w' ⟨rfl,rfl⟩;exact ⟨by rw [show Lib.hasPrefix s.data.toList f.data.toList=false from hp2],rfl⟩));have HY:Hid (pickR (bl s) none (l.map ruleOf)=pickR (bl s) acc ((l.map ruleOf).drop (k+1))):=by
       show _=_;rw [HF.out,HD.out,pickR,if_neg (by rw [takes_no (r:=ruleOf (f,ts)) hp2];decide)]
      have HK2:Hid (KeyAt l (k+1) u8 acc):=by
       rcases hkey with h|⟨kk,h1,h2⟩
       ·exact .inl h
       ·exact .inr ⟨kk,by omega,h2⟩
      have hkv:∃n:Int,u8=.int .i64 n:=by
       rcases hkey with ⟨rfl,_⟩|⟨kk,_,rfl,_⟩
       ·exact ⟨_,rfl⟩
       ·exact ⟨_,rfl⟩
      obtain ⟨n,rfl⟩:=hkv;clear hp hp2 HF HD hkey;go_wp2_with fail;go_quiet (exact Calls.quiet_of_same (HH.out _));go_wp2_with fail;go_roundw
      case rel=>exact ⟨k+1,acc,by omega,by go_num,HK2.out,HY,HB2.out _⟩
      case measure=>simp [intOf];omega
    ·obtain rfl:k=l.length:=by omega
     have HPK:Hid (pickR (bl s) none (l.map ruleOf)=acc):=by show _=_;rw [HF.out,drop_rules];rfl
     clear HF;rcases hkey with ⟨rfl,rfl⟩|⟨kk,hkk,rfl,hkl,rfl⟩
     ·have hr:wr.ownsRow w.heap.size 9 1 (.slice none 0 0) ([]:List ByteArray).length (([]:List ByteArray).map Value.string):=World.ownsRow_nil _ _ _ _;have HP:Hid (([]:List ByteArray).map bl=waysR (bl s) (pickR (bl s) none (l.map ruleOf))):=by show _=_;rw [HPK.out];rfl
      obtain ⟨xs,hxs⟩:∃xs:List ByteArray,xs=[]:=⟨_,rfl⟩;rw [←hxs] at hr HP;have hx0:xs.length≤3:=by rw [hxs];decide
      clear hxs;have C:=Lib.hid (contains_any (row_of_own hr) (by omega) s);go_wp2_with fail;refine C.out.mono ?_;clear C;rintro e w5 ⟨rfl,rfl⟩
      cases hc:(xs.map bl).contains (bl s) with
      |true=>
       have HO:Hid (xs.map bl=waysOut (l.map ruleOf) (bl s)):=by show _=_;unfold waysOut;rw [←HP.out,if_pos (List.contains_iff_mem.1 hc)]
       clear hc;go_wp2_with fail;go_ret2;exact ⟨⟨_,_,_,rfl,by show IsErr _ _ _ _;rw [HX.out];exact IsErr.nil E _,row_of_own hr,by show _=_;rw [HX.out,if_pos rfl];exact HO.out,by omega⟩,hb⟩
      |false=>
       have HO:Hid ((xs++[s]).map bl=waysOut (l.map ruleOf) (bl s)):=by
        show _=_;unfold waysOut;rw [←HP.out,if_neg (by intro h;rw [List.contains_iff_mem.2 h] at hc;cases hc),List.map_append];rfl
       clear hc;go_wp2_with (at_builtin;refine wpList_append_own _ rfl _ _ 22 rfl w.heap.size 9 i0 (.string ⟨#[]⟩) 1 16 Tryz.underlying22 hi0 hz0 hz1 hz2 rfl (by decide) _ _ _ rfl (World.ownsRow.alloc hr _) ⟨w5.heap.size,0,none⟩ 1 1 [.string s] rfl rfl ?c1 ?c2 ?c3 ?c4 ?c5 ?_)
       case c1=>
        intro j u hj
        match j,hj with
        |0,hj=>simp at hj;subst hj;simp [Addr.add]
       case c2=>intro u hu;simp at hu;subst hu;rfl
       case c3=>rw [maxLen_eq];omega
       case c4=>omega
       case c5=>have:=hb.size;simp;omega
       intro v6 w6 hown6 hgrow6 _;have hb7:Below w.heap.size w w6:=(hb.alloc hb.size _).grown hgrow6 (by have:=hb.size;simp;omega) (fun r e=>(World.ownsRow.lt hr r e).1);have hr6:w6.ownsRow w.heap.size 9 1 v6 (xs++[s]).length ((xs++[s]).map Value.string):=by rw [List.length_append,List.map_append];exact hown6
       clear hown6 hgrow6;go_wp2_with fail;go_ret2;exact ⟨⟨_,_,_,rfl,by show IsErr _ _ _ _;rw [HX.out];exact IsErr.nil E _,row_of_own hr6,by show _=_;rw [HX.out,if_pos rfl];exact HO.out,by simp;omega⟩,hb7⟩
     ·obtain ⟨b,off,rfl,hbl,hcell⟩:=HM.out kk hkl;obtain ⟨d1,tv,d2,d3⟩:=hcell kk hkl;obtain ⟨r,hr⟩:∃r,l[kk]=r:=⟨_,rfl⟩;rw [hr] at d1 d3 HPK;have HZ:=Lib.hid (HS.out r (by rw [←hr];exact List.getElem_mem hkl));clear hcell hr;obtain ⟨f,ts⟩:=r;obtain ⟨ao2,cap2,rfl,g1,g2,G3⟩:=d3.parts;have HG:=Lib.hid G3;clear G3 d3;simp only at d1 d2 HG;have hfz:f.size≤120:=HZ.out.1;have htz:ts.length≤10:=HZ.out.2.1;have HTZ:Hid (∀t∈ts,t.size≤120):=HZ.out.2.2;have cl1:=(hb.cell (p:=⟨b,off+kk*2,none⟩) hbl).trans d1;have cl2:=(hb.cell (p:=⟨b,off+kk*2+1,none⟩) hbl).trans d2;have hge:decide ((0:Int)≤(kk:Int))=true:=decide_eq_true (by omega);clear HZ;go_wp2_with fail;clear cl1 cl2;go_loopw [11,63] (fun o i w3=>∃(m:Nat) (xs:List ByteArray),m≤ts.length∧i=.int .i64 m∧xs.length≤m∧w3.ownsRow w.heap.size 9 1 o xs.length (xs.map Value.string)∧
       Hid (waysGo (bl f) (bl s) [] (ts.map bl)=waysGo (bl f) (bl s) (xs.map bl) ((ts.map bl).drop m))∧Below w.heap.size w w3) (fun _ i _=>ts.length- (intOf i).toNat)
      case atStart=>exact ⟨0,[],Nat.zero_le _,rfl,Nat.le_refl _,World.ownsRow_nil _ _ _ _,rfl,hb⟩
      case round=>
       obtain ⟨m,xs,hm,rfl,hxm,hr,HW,hb3⟩:=hrel;by_cases hmt:m<ts.length
       ·obtain ⟨b2,off2,rfl,hbl2,hcell2⟩:=HG.out m hmt;have cl1:=(hb3.cell (p:=⟨b,off+kk*2,none⟩) hbl).trans d1;have cl4:=(hb3.cell (p:=⟨b2,off2+m,none⟩) hbl2).trans (hcell2 m hmt);have sz:=HTZ.out ts[m] (List.getElem_mem hmt);have HD:=Lib.hid (drop_bl ts m hmt);clear hcell2;generalize ts[m]=t at cl4 sz HD;have C:=Lib.hid (swap_any f t s wr (by omega) (by omega) (by omega) (HE.out.ext hb3));go_wp2_with fail;refine C.out.mono ?_;clear C;rintro e w4 ⟨⟨x,rfl,HX2⟩,hb4⟩;have hb5:=hb3.trans (hb4.mono hb3.size);have hr4:=owns_below hr hb4;clear hr hb4 cl1 cl4
        cases hc:swapE (bl f) (bl t) (bl s) with
        |succ c=>
         have HW2:Hid (waysGo (bl f) (bl s) [] (ts.map bl)=waysGo (bl f) (bl s) (xs.map bl) ((ts.map bl).drop (m+1))):=by
          show _=_;rw [HW.out,HD.out,waysGo,if_neg (by rintro ⟨h,_⟩;rw [hc] at h;cases h)]
         rw [show errV E (c+1)=sentV E c from rfl];clear hc HW HD;go_wp2_with fail;go_roundw
         case rel=>exact ⟨m+1,xs,by omega,by go_num,by omega,hr4,HW2,hb5⟩
         case measure=>simp [intOf];omega
        |zero=>
         rw [show errV E 0=.nilIface from rfl];have C:=Lib.hid (contains_any (row_of_own hr4) (by omega) x);have HC0:=Lib.hid hc;clear hc;go_wp2_with fail;refine C.out.mono ?_;clear C;rintro e w5 ⟨rfl,rfl⟩
         cases hc:(xs.map bl).contains (bl x) with
         |true=>
          have HW2:Hid (waysGo (bl f) (bl s) [] (ts.map bl)=waysGo (bl f) (bl s) (xs.map bl) ((ts.map bl).drop (m+1))):=by
           show _=_;rw [HW.out,HD.out,waysGo,if_neg (by rintro ⟨_,h⟩;exact h (by rw [←HX2.out];exact List.contains_iff_mem.1 hc))]
          clear hc HW HD;go_wp2_with fail;go_roundw
          case rel=>exact ⟨m+1,xs,by omega,by go_num,by omega,hr4,HW2,hb5⟩
          case measure=>simp [intOf];omega
         |false=>
          have HW2:Hid (waysGo (bl f) (bl s) [] (ts.map bl)=waysGo (bl f) (bl s) ((xs++[x]).map bl) ((ts.map bl).drop (m+1))):=by
           show _=_;rw [HW.out,HD.out,waysGo,if_pos ⟨HC0.out,by rw [←HX2.out];intro h;rw [List.contains_iff_mem.2 h] at hc;cases hc⟩,List.map_append,←HX2.out];rfl
          clear hc HW HD;go_wp2_with (at_builtin;refine wpList_append_own _ rfl _ _ 22 rfl w.heap.size 9 i0 (.string ⟨#[]⟩) 1 16 Tryz.underlying22 hi0 hz0 hz1 hz2 rfl (by decide) _ _ _ rfl (World.ownsRow.alloc hr4 _) ⟨w5.heap.size,0,none⟩ 1 1 [.string x] rfl rfl ?c1 ?c2 ?c3 ?c4 ?c5 ?_)
          case c1=>
           intro j u hj
           match j,hj with
           |0,hj=>simp at hj;subst hj;simp [Addr.add]
          case c2=>intro u hu;simp at hu;subst hu;rfl
          case c3=>rw [maxLen_eq];omega
          case c4=>omega
          case c5=>have:=hb5.size;simp;omega
          intro v6 w6 hown6 hgrow6 _;have hb7:Below w.heap.size w w6:=(hb5.alloc hb5.size _).grown hgrow6 (by have:=hb5.size;simp;omega) (fun r e=>(World.ownsRow.lt hr4 r e).1);have hr6:w6.ownsRow w.heap.size 9 1 v6 (xs++[x]).length ((xs++[x]).map Value.string):=by rw [List.length_append,List.map_append];exact hown6
          clear hown6 hgrow6;go_wp2_with fail;go_roundw
          case rel=>exact ⟨m+1,xs++[x],by omega,by go_num,by simp;omega,hr6,HW2,hb7⟩
          case measure=>simp [intOf];omega
       ·obtain rfl:m=ts.length:=by omega
        have HP:Hid (xs.map bl=waysR (bl s) (pickR (bl s) none (l.map ruleOf))):=by
         show _=_;have h:=HW.out;rw [drop_end] at h;rw [HPK.out];exact h.symm
        have hx10:xs.length≤10:=by omega
        clear HW;have C:=Lib.hid (contains_any (row_of_own hr) (by omega) s);go_wp2_with fail;refine C.out.mono ?_;clear C;rintro e w5 ⟨rfl,rfl⟩
        cases hc:(xs.map bl).contains (bl s) with
        |true=>
         have HO:Hid (xs.map bl=waysOut (l.map ruleOf) (bl s)):=by show _=_;unfold waysOut;rw [←HP.out,if_pos (List.contains_iff_mem.1 hc)]
         clear hc;go_wp2_with fail;go_ret2;exact ⟨⟨_,_,_,rfl,by show IsErr _ _ _ _;rw [HX.out];exact IsErr.nil E _,row_of_own hr,by show _=_;rw [HX.out,if_pos rfl];exact HO.out,by omega⟩,hb3⟩
        |false=>
         have HO:Hid ((xs++[s]).map bl=waysOut (l.map ruleOf) (bl s)):=by
          show _=_;unfold waysOut;rw [←HP.out,if_neg (by intro h;rw [List.contains_iff_mem.2 h] at hc;cases hc),List.map_append];rfl
         clear hc;go_wp2_with (at_builtin;refine wpList_append_own _ rfl _ _ 22 rfl w.heap.size 9 i0 (.string ⟨#[]⟩) 1 16 Tryz.underlying22 hi0 hz0 hz1 hz2 rfl (by decide) _ _ _ rfl (World.ownsRow.alloc hr _) ⟨w5.heap.size,0,none⟩ 1 1 [.string s] rfl rfl ?c1 ?c2 ?c3 ?c4 ?c5 ?_)
         case c1=>
          intro j u hj
          match j,hj with
          |0,hj=>simp at hj;subst hj;simp [Addr.add]
         case c2=>intro u hu;simp at hu;subst hu;rfl
         case c3=>rw [maxLen_eq];omega
         case c4=>omega
         case c5=>have:=hb3.size;simp;omega
         intro v6 w6 hown6 hgrow6 _;have hb7:Below w.heap.size w w6:=(hb3.alloc hb3.size _).grown hgrow6 (by have:=hb3.size;simp;omega) (fun r e=>(World.ownsRow.lt hr r e).1);have hr6:w6.ownsRow w.heap.size 9 1 v6 (xs++[s]).length ((xs++[s]).map Value.string):=by rw [List.length_append,List.map_append];exact hown6
         clear hown6 hgrow6;go_wp2_with fail;go_ret2;exact ⟨⟨_,_,_,rfl,by show IsErr _ _ _ _;rw [HX.out];exact IsErr.nil E _,row_of_own hr6,by show _=_;rw [HX.out,if_pos rfl];exact HO.out,by simp;omega⟩,hb7⟩
 ·have HX:Hid (waysEr (l.map ruleOf) (bl s)=rulesEr (l.map ruleOf)):=by show _=_;unfold waysEr;rw [if_neg h0]
  obtain ⟨t,x,hx⟩:=HV.out.some_inv h0;have HN:=Lib.hid h0;clear h0;subst hx;go_wp2_with fail;go_ret2;exact WaysPost.bad (by show IsErr _ _ _ _;rw [HX.out];exact HV.out) (by rw [HX.out];exact HN.out) b1
end Go.Proofs.YtaabgmbjmfjdjaaGreatDoor
