import Derived.Test.YtaabgmbjmfjdjaaGreatDoorJCmdNetEtc
import Derived.Deep.RegionHeld3
import Derived.Laws.EntriesVeiled
import Derived.Test.YtaabgmbjmfjdjaaGreatDoorJNetPlainEtc
import Derived.Test.YtaabgmbjmfjdjaaGreatDoorJSummed
import Derived.Test.YtaabgmbjmfjdjaaGreatDoorJRefLinkUp
import Derived.Test.YtaabgmbjmfjdjaaGreatDoorJRowedEtc
import Derived.Test.YtaabgmbjmfjdjaaGreatDoorJToldEtc
import Derived.Test.YtaabgmbjmfjdjaaGreatDoorJPathedEtc
namespace Go.Proofs.YtaabgmbjmfjdjaaGreatDoor
open Go Go.RowKit
set_option maxHeartbeats 8000000
set_option maxRecDepth 100000
section
variable {E:Nat→Addr} {w:World} {B nb sb pb tn:Nat} {kv:Value} {P:PlayS}
theorem ruleS_fullR {S:ShopS} {t:TapeS} {r:RuleL} (h:RulesFull S) (hr:r.2≠[]):RulesFull (ruleS S t r).2.1:=by
 unfold ruleS;split
 ·exact h
 ·split
  ·exact h
  ·intro x hx;rcases List.mem_append.1 hx with hx|hx
   ·exact h x hx
   ·rcases List.mem_singleton.1 hx with rfl;exact hr
theorem cutL_cons (c:UInt8) (l:List UInt8):∃x y,cutL c l=x::y:=by
 cases h:cutL c l with
 |nil=>exact absurd h (cutL_ne c l)
 |cons x y=>exact ⟨x,y,rfl⟩
theorem play_any (line:ByteArray) (h:Plays E w B nb sb pb tn kv P) (_:line.size≤1000) (ht:tn<100000000):
  Calls Tryz.prog 15 #[.pointer (some ⟨pb,0,none⟩),.string line] w (CmdPost E B pb tn kv (playW P (cutL 32 (bl line))) w):=by
 refine post_hide fun R0 HR0=>?_
 have HH:=Lib.hid h;have C:=Lib.hid (splitRow_any line 32 w (by omega) h.ft.tape.2.2);clear h;go_enter Tryz.func15,Tryz.ntmps15;go_wp2_with fail;refine C.out.mono ?_;clear C;rintro e w1 ⟨⟨zs,n,rfl,HZ,hn,hln,HS,HR⟩,hb1⟩;obtain ⟨g,hg⟩:∃g,w.heap.size=g:=⟨_,rfl⟩;have hBg:B≤g:=by rw [←hg];exact HH.out.size
 rw [hg] at HR⊢;obtain ⟨z0,zt,rfl⟩:∃z0 zt,zs=z0::zt:=by
  obtain ⟨x,y,e⟩:=cutL_cons 32 (bl line);have:=HZ.out;rw [e] at this
  cases zs with
  |nil=>cases this
  |cons a b=>exact ⟨a,b,rfl⟩
 have HZ2:Hid (cutL 32 (bl line)=bl z0::zt.map bl):=HZ.out.symm;have HB1:=Lib.hid hb1;have H1:=Lib.hid (HH.out.below hb1);have z0c:w1.cell? ⟨g,0,none⟩=some (.string z0):=by rw [Lib.cell_of_heap HR.out];rfl
 obtain ⟨q,hq⟩:∃q:Bool,(z0.toList== [114,117,108,101])=q:=⟨_,rfl⟩;have HQ:Hid (q=true↔bl z0=wRule):=by show _↔_;rw [←hq,←toList_bl,beq_iff_eq];rfl
 have hnn:n=zt.length+1:=hn;have hgw:g<w1.heap.size:=(Array.getElem?_eq_some_iff.1 HR.out).1;have HG:=Lib.hid hg;clear hn HZ hg hb1;by_cases hrule:q=true∧2<n
 ·obtain ⟨rfl,h2⟩:=hrule;have h2i:(2:Int)<(n:Int):=by omega
  obtain ⟨z1,z2,zu,rfl⟩:∃z1 z2 zu,zt=z1::z2::zu:=by
   match zt,hnn with
   | [],h=>simp at h;omega
   | [a],h=>simp at h;omega
   |a::b::l,_=>exact ⟨a,b,l,rfl⟩
  have hlen:(z0::z1::z2::zu).length=n:=hnn.symm;have hzu:zu.length+3=n:=by simpa using hlen
  obtain ⟨sa,hsl,hsp⟩:=words_from g n 2 (by omega);have HPW:Hid (playW P (cutL 32 (bl line))=((ruleS P.shop P.tape (ruleOf (z1,z2::zu))).1,okW,{P with shop:=(ruleS P.shop P.tape (ruleOf (z1,z2::zu))).2.1,tape:=(ruleS P.shop P.tape (ruleOf (z1,z2::zu))).2.2})):=by
   show _=_;rw [HZ2.out];unfold playW;rw [if_pos ⟨HQ.out.1 rfl,by simp⟩];rfl
  have hdr:Below w1.heap.size w1 w1.drew:=below_drewN _ _ 1;have hd:=H1.out.below hdr;have hrow:RowP w1.drew (.slice sa (n-2) (n-2)) (z2::zu):=(hsp w1.drew B _ hlen (by unfold maxLen;omega) hBg HR.out).row;have hz:=HS.out;have C:=Lib.hid (shopRule_any (E:=E) B nb sb tn P.net P.shop P.tape z1 (.slice sa (n-2) (n-2)) (z2::zu) w1.drew hd.prog hd.op ⟨by show z1.size≤_;have:=hz z1 (by simp);omega,by show zu.length+1≤_;omega,fun t ht=>by have:=hz t (by rcases List.mem_cons.1 ht with rfl|h<;>simp [*]);omega⟩ hrow hd.size hd.env);obtain ⟨m2,hm2⟩:∃m,n-2=m:=⟨_,rfl⟩;rw [hm2] at hsl C;have hsl:∀W:World,(Instr.slice 22 (.slice (some ⟨g,0,none⟩) n n) (some (.int .i64 2)) none none).run Tryz.prog W=.ok (.slice sa m2 m2) W:=hsl;have HSH:=Lib.hid (ruleS_ok H1.out.has.choose_spec (ruleOf (z1,z2::zu)));have HFL:=Lib.hid (ruleS_fullR (t:=P.tape) (r:=ruleOf (z1,z2::zu)) H1.out.full (by simp [ruleOf]));have KS:Hid (∀W,Keeps PRow B w1 W→W.cell? ⟨pb,0,none⟩=some (.pointer (some ⟨sb,0,none⟩))∧W.cell? ⟨g,1,none⟩=some (.string z1)):=fun W hW=>by
   have hb:=hW.keep pb _ H1.out.box (kp_other _ (by decide) (by decide) (by decide) (by decide) (by decide) _ _);have hg:=hW.keep g _ HR.out (kp_other _ (by decide) (by decide) (by decide) (by decide) (by decide) _ _);exact ⟨by rw [Lib.cell_of_heap hb];rfl,by rw [Lib.cell_of_heap hg];rfl⟩
  obtain ⟨d0,d1⟩:=KS.out _ (Keeps.refl _ _ _);obtain ⟨r,hrr⟩:∃r,ruleS P.shop P.tape (ruleOf (z1,z2::zu))=r:=⟨_,rfl⟩;rw [hrr] at C HSH HFL HPW;obtain ⟨cd,S2,t2⟩:=r;have hn1:(1:Int)<(n:Int):=(by omega);clear hrr hd hrow hz hsp HZ2 HQ HS hlen hzu hnn HR hm2;go_wp2_with fail;go_region_held3 (fun W:World=>W.cell? ⟨pb,0,none⟩=some (.pointer (some ⟨sb,0,none⟩))∧W.cell? ⟨g,1,none⟩=some (.string z1)) (first|exact ⟨d0,d1⟩|exact x2|exact KS.out _ (H1.out.fresh hdr))
   (first
    |(go_at_call 23;refine C.out.mono ?_;rintro e w2 ⟨rfl,h13,HP,HK⟩;have x2:=KS.out _ ((H1.out.fresh hdr).trans HK.out))
    |fail)
  all_goals
   go_wp2_with fail;go_ret2;rw [←HR0.out,HPW.out];exact (CmdPost.turn H1.out ((H1.out.fresh hdr).trans HK.out) HP.out HSH.out HFL.out (by omega) (errV_is h13) rfl).from HH.out.size HB1.out
 ·have HPW:Hid (playW P (cutL 32 (bl line))=doW P (bl z0) (zt.map bl)):=by
   show _=_;rw [HZ2.out];unfold playW;rw [if_neg (fun h=>hrule ⟨HQ.out.2 h.1,by have:=h.2;simp at this;omega⟩)];rfl
  obtain ⟨sa,hsl,hsp⟩:=words_from g n 1 (by omega);have hmn:zt.length=n-1:=by omega
  rw [←hmn] at hsl hsp;have HSP:=Lib.hid hsp;have HSL:=Lib.hid hsl;have HB0:=Lib.hid (below_drewN w1.heap.size w1 1);have hB1:Below w1.heap.size w1 ((w1.drewN 1).alloc (.cells #[.int .i64 0,.nilFunc] 66)):=(below_drewN w1.heap.size w1 1).alloc (Nat.le_refl _) _;have HB1':=Lib.hid hB1;have FW:Hid (((w1.drewN 1).alloc (.cells #[.int .i64 0,.nilFunc] 66)).heap[w1.heap.size]? =some (.cells #[.int .i64 0,.nilFunc] 66 (0,0))):=heap_alloc_new (w1.drewN 1) _;have KS:Hid (∀W,Below w1.heap.size w1 W→W.cell? ⟨g,0,none⟩=some (.string z0)):=fun W hW=>(hW.cell (p:=⟨g,0,none⟩) hgw).trans z0c
  obtain ⟨nx,fx,is,LK,hcase⟩:=look_word z0;have HLK:=Lib.hid LK;have h2:q=true→¬(2:Int)<(n:Int):=fun h h2=>hrule ⟨h,by omega⟩
  clear HQ HZ2 hrule hsp hsl LK hB1 hmn;subst hnn;have HCS:=Lib.hid hcase;clear hcase
  cases q
  case' true=>have h2:=h2 rfl
  all_goals
   go_upto_region 4 with fail
   go_cut [7,8] from 31 to 38 (fun pv iv wx=>∃(q nv:Nat) (fv:Value) (bv:Bool),pv=.pointer (some ⟨q,0,none⟩)∧iv=.bool bv∧w1.heap.size≤q∧Hid ((bv=true∧∃x∈cmdL,x.1=z0∧x.2.1=nv∧fv=.func (.func x.2.2) #[] #[])∨(bv=false∧fv=.nilFunc∧∀x∈cmdL,x.1≠z0))∧Hid (wx.heap[q]? =some (.cells #[.int .i64 nv,fv] 66 (0,0)))∧Hid (Below w1.heap.size w1 wx))
   case first=>
    rcases HCS.out with ⟨rfl,x,hx,hxk,rfl,rfl⟩|⟨rfl,rfl,hno⟩
    all_goals
     go_region_held3 (fun W:World=>W.cell? ⟨g,0,none⟩=some (.string z0)) (first|exact z0c|exact KS.out _ HB0.out|exact KS.out _ HB1'.out|exact x2|exact KS.out _ (hb2.trans (cbox_store HX.out _ _ (Nat.le_refl _)).2)|exact KS.out _ (hb2.alloc hb2.size _))
      (first
       |(go_at_call 24;refine (commands_any _).mono ?_;rintro e w2 ⟨rfl,HC⟩;have hb2:=HB0.out.trans (HC.out.2.2.mono HB0.out.size);have x2:=KS.out _ hb2;have lk:=HLK.out _ _ w1.heap.size HC.out;have lk2:=HLK.out _ _ w1.heap.size (HC.out.alloc (.cells #[.int .i64 0,.nilFunc] 66)))
       |(go_at_call 24;refine (commands_any _).mono ?_;rintro e w2 ⟨rfl,HC⟩;have hb2:=HB1'.out.trans (HC.out.2.2.mono HB1'.out.size);have x2:=KS.out _ hb2;have lk:=HLK.out _ _ (w1.heap.size+1) (by simpa using HC.out);have HX:=Lib.hid ((HC.out.2.2.block w1.heap.size (by simp)).trans FW.out);have c0:w2.cell? ⟨w1.heap.size,0,none⟩=some (.int .i64 0):=(by rw [Lib.cell_of_heap HX.out];rfl);have c1:w2.cell? ⟨w1.heap.size,1,none⟩=some .nilFunc:=(by rw [Lib.cell_of_heap HX.out];rfl);have f0:w2.frozen? ⟨w1.heap.size,0,none⟩=false:=Lib.frozen_of_heap HX.out 0;have f1:w2.frozen? ⟨w1.heap.size,1,none⟩=false:=Lib.frozen_of_heap HX.out 1)
       |fail)
    all_goals (go_wp2_with fail;go_meet)
    all_goals first
     |exact ⟨_,_,_,_,rfl,rfl,hb2.size,.inl ⟨rfl,x,hx,hxk,rfl,rfl⟩,heap_alloc_new w2 _,hb2.alloc hb2.size _⟩
     |exact ⟨_,_,_,_,rfl,rfl,hb2.size,.inr ⟨rfl,rfl,hno⟩,heap_alloc_new w2 _,hb2.alloc hb2.size _⟩
     |exact ⟨_,_,_,_,rfl,rfl,Nat.le_refl _,.inl ⟨rfl,x,hx,hxk,rfl,rfl⟩,(cbox_store HX.out _ _ (Nat.le_refl _)).1,hb2.trans (cbox_store HX.out _ _ (Nat.le_refl _)).2⟩
     |exact ⟨_,_,_,_,rfl,rfl,Nat.le_refl _,.inr ⟨rfl,rfl,hno⟩,(cbox_store HX.out _ _ (Nat.le_refl _)).1,hb2.trans (cbox_store HX.out _ _ (Nat.le_refl _)).2⟩
   case rest=>
    obtain ⟨q,nv,fv,bv,rfl,rfl,hq1,HC2,HQ,HB2⟩:=hcut;have b0:wc.cell? ⟨q,0,none⟩=some (.int .i64 nv):=by rw [Lib.cell_of_heap HQ.out];rfl
    have b1:wc.cell? ⟨q,1,none⟩=some fv:=by rw [Lib.cell_of_heap HQ.out];rfl
    have HBW:=Lib.hid (HB1.out.trans (HB2.out.mono HB1.out.size));have H2:=Lib.hid (H1.out.below HB2.out);have HRc:=Lib.hid ((HB2.out.block g hgw).trans HR.out);have e0:=H2.out.ft.env.eText;clear KS FW HB0 HB1' HLK HCS z0c;rcases HC2.out with ⟨rfl,x,hx,hxk,hxn,rfl⟩|⟨rfl,rfl,hno⟩
    ·clear HC2;by_cases hnw:nv=zt.length
     ·subst hnw;have hdr:Below wc.heap.size wc wc.drew:=below_drewN _ _ 1;have hz:∀z∈zt,z.size≤1000:=fun z hz=>by have:=HS.out z (List.mem_cons_of_mem _ hz);omega
      have C:=does_any x hx zt (.slice sa zt.length zt.length) (H2.out.below hdr) (HSP.out wc.drew B (z0::zt) rfl (by unfold maxLen;omega) hBg HRc.out) hxn hz ht;have HQd:Hid (wc.drew.heap[q]? =some (.cells #[.int .i64 zt.length,.func (.func x.2.2) #[] #[]] 66 (0,0))):=HQ.out;rw [hxk] at C;obtain ⟨f,hf⟩:∃f,x.2.2=f:=⟨_,rfl⟩;have hent:=cmd_enters x hx;rw [hf] at C b1 HQd hent;obtain ⟨r,hrr⟩:∃r,doW P (bl z0) (zt.map bl)=r:=⟨_,rfl⟩;rw [hrr] at C HPW;have HC:=Lib.hid C;have hsl:∀W:World,(Instr.slice 22 (.slice (some ⟨g,0,none⟩) (zt.length+1) (zt.length+1)) (some (.int .i64 1)) none none).run Tryz.prog W=.ok (.slice sa zt.length zt.length) W:=HSL.out;clear hrr hf hz C hx hxk hxn HSP HSL HS HR HRc HQ e0;go_wp2_with fail;go_region_held3 (fun W:World=>W.cell? ⟨q,1,none⟩=some (.func (.func f) #[] #[])) (first|exact b1|exact x4)
       (first
        |(go_at_fn f;refine HC.out.mono ?_;rintro e w4 ⟨⟨t,ev,er,rfl,HI⟩,HP,HK⟩;have x4:w4.cell? ⟨q,1,none⟩=some (.func (.func f) #[] #[]):=by rw [Lib.cell_of_heap (HK.out.keep q _ HQd.out (fun h=>by rcases h with h|⟨_,_,e⟩;exact kp_other _ (by decide) (by decide) (by decide) (by decide) (by decide) _ _ h;injection e with _ e _;exact absurd e (by decide)))];rfl)
        |fail)
      all_goals
       go_wp2_with fail;go_ret2;rw [←HR0.out,HPW.out];exact CmdPost.from (w:=wc.drew) ⟨⟨t,ev,er,rfl,HI⟩,HP,HK⟩ HH.out.size (HBW.out.trans (hdr.mono HBW.out.size))
     ·have e1:((zt.length:Int)==(nv:Int))=false:=beq_eq_false_iff_ne.2 (by omega);have e2:((zt.length:Int) != (nv:Int))=true:=by rw [bne,e1];rfl
      have HD:Hid (doW P (bl z0) (zt.map bl)=(1,[],P)):=doW_none _ _ fun y hy h=>by
       have:y=x:=cmd_same hy hx (bl_inj (h.1.trans (by rw [hxk])));subst this;rw [List.length_map] at h;omega
      clear hx hxk hxn HS HR HRc HQ HSP HSL;go_wp2_with fail;go_quiet (fail);go_wp2_with fail;go_ret2;rw [←HR0.out,HPW.out,HD.out];exact (CmdPost.bad (er:=⟨1,none⟩) H2.out (below_drewN _ _ _) (IsErr.sent (by decide)) (by simp) _).from HH.out.size HBW.out
    ·have HD:Hid (doW P (bl z0) (zt.map bl)=(1,[],P)):=doW_none _ _ fun y hy h=>hno y hy (bl_inj h.1)
     clear HC2 hno HS HR HRc HQ HSP HSL;go_wp2_with fail;go_quiet (fail);go_wp2_with fail;go_ret2;rw [←HR0.out,HPW.out,HD.out];exact (CmdPost.bad (er:=⟨1,none⟩) H2.out (below_drewN _ _ _) (IsErr.sent (by decide)) (by simp) _).from HH.out.size HBW.out
end
theorem lastS_snoc:∀(l:List (List UInt8)) (P:PlayS) (s:List UInt8),lastS P (l++[s])=(lineS (lastS P l) s).2
 | [],_,_=>rfl
 |x::l,P,s=>by show lastS (lineS P x).2 (l++[s])=_;rw [lastS_snoc l];rfl
theorem linesS_snoc (l:List (List UInt8)) (P:PlayS) (s:List UInt8):linesS P (l++[s])=linesS P l++[(lineS (lastS P l) s).1]:=by rw [linesS_app];rfl
theorem ShEnv.of {E:Nat→Addr} {w:World} (h:FtEnv E w):ShEnv E w.heap.size w:=⟨fun _ hW=>h.ext hW,fun k hk=>lt_of_cell (h.env.err k hk)⟩
def PlAt (E:Nat→Addr) (w:World) (B pb tn:Nat) (ov:Value) (P:PlayS):Prop:=∃nb sb kv,Plays E w B nb sb pb tn kv P∧∀g,kv=.pointer (some ⟨g,0,none⟩)→ov.ownBlock≠some g
theorem PlAt.below {E:Nat→Addr} {w w':World} {B pb tn:Nat} {ov:Value} {P:PlayS} (h:PlAt E w B pb tn ov P) (hb:Below w.heap.size w w'):PlAt E w' B pb tn ov P:=by
 obtain ⟨nb,sb,kv,h,hg⟩:=h;exact ⟨nb,sb,kv,h.below hb,hg⟩
theorem PlAt.pushed {E:Nat→Addr} {w w':World} {B B2 pb tn:Nat} {ov v':Value} {acc:List ByteArray} {P:PlayS} (h:PlAt E w B pb tn ov P) (ho:w.ownsRow B2 9 1 ov acc.length (acc.map Value.string)) (hnil:acc=[]→ov=.slice none 0 0) (hl:∀z,acc[0]? =some z→lkIs (bl z)=false)
  (hf:∀k,k<w.heap.size→ov.ownBlock≠some k→w'.heap[k]? =w.heap[k]?) (hv:∀(g:Nat) (t:ByteArray),w.heap[g]? =some (.cells #[.string t] 9 (0,0))→ov.ownBlock≠some g→v'.ownBlock≠some g) (hb:Below B w w'):PlAt E w' B pb tn v' P:=by
 obtain ⟨nb,sb,kv,h,hg⟩:=h;have hK:Keeps (fun o=>∃cs fz,o=.cells cs 9 fz) B w w':=⟨hb,fun k o hk hn=>by
  have hlt:=(Array.getElem?_eq_some_iff.1 hk).1;rw [hf k hlt ?_]
  ·exact hk
  ·intro e;rcases ho.2 with ⟨rfl,_⟩|⟨g,cap,cur,rfl,_,hg2,_⟩
   ·cases e
   ·cases e;rw [hk] at hg2;exact hn ⟨_,_,Option.some.inj hg2⟩⟩
 have ne:∀(T:TypeId),T≠9→∀cs fz,¬(∃cs2 fz2,Obj.cells cs T fz=.cells cs2 9 fz2):=fun T hT cs fz ⟨_,_,e⟩=>by injection e with _ e _;exact hT e
 have nm:∀es c,¬(∃cs2 fz2,Obj.map es c=.cells cs2 9 fz2):=fun es c ⟨_,_,e⟩=>by cases e
 obtain ⟨hb1,tb,rv,lv,rl,hp⟩:=h.prog;have hr:RulesOwn w' B rv rl:=by
  obtain ⟨tvs,t1,t2,t3⟩:=hp.rules;refine ⟨tvs,t1,hK.owns t2 (fun cs=>ne _ (by decide) cs _),fun j hj=>?_⟩;obtain ⟨tv,e1,e2⟩:=t3 j hj;refine ⟨tv,e1,?_⟩;rcases id e2.2 with ⟨e3,e4⟩|⟨g,cap,cur,e3,e4,e5,e6⟩
  ·exact ⟨e2.1,.inl ⟨e3,e4⟩⟩
  ·refine ⟨e2.1,.inr ⟨g,cap,cur,e3,e4,?_,e6⟩⟩;rw [hf g (Array.getElem?_eq_some_iff.1 e5).1 ?_]
   ·exact e5
   ·intro e7;have hmem:ruleOf rl[j]∈P.shop.rules:=by rw [←hp.ruled];exact List.mem_map_of_mem (List.getElem_mem hj)
    obtain ⟨recs,hs⟩:=h.has;exact rule_not (hs.shop.rules) hmem (h.full _ hmem) ho hnil hl e7 e5 e2 e3
 refine ⟨nb,sb,kv,⟨h.hpb,hK.keep pb _ h.box (ne _ (by decide) _ _),?_,⟨hb1,tb,rv,lv,rl,?_⟩,h.has,h.full,h.env.ext hb,Nat.le_trans h.size hb.size⟩,fun g e=>?_⟩
 ·have hkp:=h.kept
  cases hk:P.kept with
  |none=>rw [hk] at hkp;exact hkp
  |some s=>
   rw [hk] at hkp;obtain ⟨g,t,e,h1,h2⟩:=hkp;exact ⟨g,t,e,(hf g (Array.getElem?_eq_some_iff.1 h1).1 (hg g e)).trans h1,h2⟩
 ·exact {hsb:=hp.hsb,shop:=hK.keep sb _ hp.shop (ne _ (by decide) _ _),rules:=hr,ruled:=hp.ruled,lock:=hK.owns hp.lock (fun cs=>ne _ (by decide) cs _),held:=hp.held.keeps hK nm (ne _ (by decide)) (fun cs=>ne _ (by decide) cs _) (fun cs=>ne _ (by decide) cs _),tape:=hp.tape.keeps hK (ne _ (by decide)) (ne _ (by decide)),net:=hp.net.keeps hK nm (ne _ (by decide)),apart:=hp.apart}
 ·have hkp:=h.kept
  cases hk:P.kept with
  |none=>rw [hk] at hkp;rw [show kv=_ from hkp] at e;cases e
  |some s=>
   rw [hk] at hkp;obtain ⟨g2,t,e2,h1,h2⟩:=hkp;rw [e] at e2;cases e2;exact hv g t h1 (hg g e)
def RunPost (ls:List (List UInt8)) (w:World) (e:Ending) (w':World):Prop:=
 (∃(ov:Value) (zs:List ByteArray),e=.returned (.tuple #[ov,.nilIface])∧Hid (zs.map bl=linesS play0 ls)∧Hid (w'.ownsRow w.heap.size 9 1 ov zs.length (zs.map Value.string)))∧Below w.heap.size w w'
theorem scRun_full {E:Nat→Addr} (v:Value) (ls:List ByteArray) (w:World) (hv:RowP w v ls) (hn:80<ls.length) (hE:FtEnv E w):
  Calls Tryz.prog 8 #[v] w fun e w'=>e=.returned (.tuple #[.slice none 0 0,sentV E 1])∧Below w.heap.size w w':=by
 obtain ⟨ao,cap,rfl,h1,h2,_⟩:=hv;have e1:=hE.env.eBound;have h80:(80:Int)<(ls.length:Int):=by omega
 clear hE;go_enter Tryz.func8,Tryz.ntmps8;go_wp2_with fail;go_quiet (fail);go_wp2_with fail;go_ret2;exact ⟨rfl,below_drewN _ _ _⟩
theorem scRun_any {E:Nat→Addr} (v:Value) (ls:List ByteArray) (w:World) (hv:RowP w v ls) (hn:ls.length≤80) (hz:∀z∈ls,z.size≤1000) (hE:FtEnv E w):
  Calls Tryz.prog 8 #[v] w (RunPost (ls.map bl) w):=by
 obtain ⟨ao,cap,rfl,h1,h2,_,H3⟩:=hv;have HM:=Lib.hid H3;have HS:=Lib.hid hz;have HE:=Lib.hid (ShEnv.of hE);have h80:¬(80:Int)<(ls.length:Int):=by omega
 have C:=Lib.hid (netNew_any w);clear H3 hz hE;go_enter Tryz.func8,Tryz.ntmps8;go_wp2_with fail;refine C.out.mono ?_;clear C;rintro e w1 ⟨nb,rfl,HN,hb1⟩;have C:=Lib.hid (shopNew_any w.heap.size nb 0 ⟨[],[],0⟩ w1 HN hb1.size);clear HN;go_wp2_with fail;refine C.out.mono ?_;clear C;rintro e w2 ⟨sb,rfl,HP,hb2⟩;have hb12:=hb1.trans (hb2.mono hb1.size);go_wp2_with fail;obtain ⟨pb,hpb⟩:∃pb,w2.heap.size=pb:=⟨_,rfl⟩;obtain ⟨w3,hw3⟩:∃w3,w2.alloc (.cells #[.pointer (some ⟨sb,0,none⟩),.pointer (some ⟨nb,0,none⟩),.pointer none] 43)=w3:=⟨_,rfl⟩;have hal:Below w2.heap.size w2 w3:=by rw [←hw3];exact (Below.refl _ _).alloc (Nat.le_refl _) _
 have hb3:=hb12.trans (hal.mono hb12.size);have H0:Hid (PlAt E w3 w.heap.size pb (20*0) (.slice none 0 0) play0):=⟨nb,sb,.pointer none,{hpb:=by rw [←hpb];exact hb12.size,box:=by rw [←hw3,←hpb];exact heap_alloc_new _ _,kept:=rfl,prog:=HP.out.below hal,has:=empty_shopped (-1) (by omega),full:=fun _ h=>(by cases h),env:=HE.out.ext hb3,size:=hb3.size},fun g e=>by cases e⟩;rw [hpb,hw3];clear hpb hw3 hal hb12 hb1 hb2 HP;go_loopw [8,32] (fun ov i wr=>∃(k:Nat) (acc:List ByteArray) (P:PlayS),k≤ls.length∧i=.int .i64 k∧Hid (acc.length=k)∧Hid (acc=[]→ov=.slice none 0 0)∧Hid (acc.map bl=linesS play0 ((ls.take k).map bl)∧P=lastS play0 ((ls.take k).map bl))∧Hid (wr.ownsRow w.heap.size 9 1 ov acc.length (acc.map Value.string))∧Hid (PlAt E wr w.heap.size pb (20*k) ov P)∧Below w.heap.size w wr) (fun _ i _=>ls.length- (intOf i).toNat)
 case atStart=>exact ⟨0,[],play0,Nat.zero_le _,rfl,rfl,fun _=>rfl,⟨rfl,rfl⟩,World.ownsRow_nil _ _ _ _,H0,hb3⟩
 case round=>
  obtain ⟨k,acc,P,hk,rfl,hac,HNL,HA,HO,HP,hbr⟩:=hrel;obtain ⟨oo,oc,rfl⟩:=row_form HO.out;clear H0 hb3;by_cases hlt:k<ls.length
  ·obtain ⟨b,off,rfl,hbl,hcell⟩:=HM.out k hlt;have z0:=(hbr.cell (p:=⟨b,off+k,none⟩) hbl).trans (hcell k hlt);have hzs:=HS.out ls[k] (List.getElem_mem hlt);have HT:Hid (ls.take (k+1)=ls.take k++[ls[k]]):=by show _=_;rw [List.take_add_one,List.getElem?_eq_getElem hlt];rfl
   obtain ⟨z,hz⟩:∃z,ls[k]=z:=⟨_,rfl⟩;rw [hz] at z0 hzs HT;clear hcell hz;obtain ⟨nb',sb',kv,hp,hkv⟩:=HP.out;have C:=play_any z hp hzs (by omega);have HKV:Hid (∀g,kv=.pointer (some ⟨g,0,none⟩)→(Value.slice oo acc.length oc).ownBlock≠some g):=hkv;have HOL:Hid (∀g,(Value.slice oo acc.length oc).ownBlock=some g→g<wr.heap.size):=fun g hg=>(World.ownsRow.lt HO.out g hg).2
   have HK2:Hid (∀u:ByteArray,bl u=(lineS P (bl z)).1→(acc++[u]).map bl=linesS play0 ((ls.take (k+1)).map bl)∧(lineS P (bl z)).2=lastS play0 ((ls.take (k+1)).map bl)):=fun u hu=>by
    rw [HT.out,List.map_append,List.map_append,List.map_singleton,List.map_singleton,linesS_snoc,lastS_snoc,←HA.out.1,←HA.out.2,hu];exact ⟨rfl,rfl⟩
   have HFS:Hid (∀x,acc[0]? =some x→lkIs (bl x)=false):=fun x hx=>linesS_first _ (by rw [←HA.out.1,List.getElem?_map,hx];rfl)
   obtain ⟨r,hr⟩:∃r,playW P (cutL 32 (bl z))=r:=⟨_,rfl⟩;have HL:Hid (lineS P (bl z)=(if r.1≠0 then errTx r.1 else r.2.1,r.2.2)):=by show _=_;unfold lineS;rw [hr]
   rw [hr] at C;obtain ⟨cd,tx,P2⟩:=r;unfold CmdPost at C;dsimp only at C HL;have HC:=Lib.hid C;clear C hr hp HA HT hkv;go_wp2_with fail;refine HC.out.mono ?_;clear HC z0;rintro e w4 ⟨⟨t,ev,er,rfl,HI⟩,HP4,HK4⟩;have hb4:=hbr.trans HK4.out.below;have HO4:Hid (w4.ownsRow w.heap.size 9 1 (.slice oo acc.length oc) acc.length (acc.map Value.string)):=HK4.out.owns HO.out (fun cs h=>by
    rcases h with h|⟨_,_,e⟩
    ·exact kp_other _ (by decide) (by decide) (by decide) (by decide) (by decide) _ _ h
    ·injection e with _ e _;exact absurd e (by decide))
   have HP5:Hid (PlAt E w4 w.heap.size pb (20*k+20) (.slice oo acc.length oc) P2):=by
    obtain ⟨n4,s4,k4,hp4,ho⟩:=HP4.out;refine ⟨n4,s4,k4,hp4,fun g e=>?_⟩;rcases ho with rfl|⟨g2,e2,hg2⟩
    ·exact HKV.out g e
    ·rw [e] at e2;cases e2;intro e3;have:=HOL.out g e3;omega
   have hac2:acc.length≤1000000:=by have:=hac.out;omega
   clear HO HP HP4 HKV HOL HK4 hbr;by_cases hc:er.code=0
   ·obtain rfl:ev=.nilIface:=HI.out.1.zero hc;have h0:cd=0:=by rw [←HI.out.2.1];exact hc
    have HK3:=Lib.hid (HK2.out t (by rw [HL.out,h0,if_neg (by simp)];exact HI.out.2.2 h0));have HLP:Hid ((lineS P (bl z)).2=P2):=by show _=_;rw [HL.out]
    have hBs:=hb4.size;clear HI HK2 HL h0 hc;go_wp2_with (at_builtin;refine push_out rfl _ _ rfl rfl rfl HO4.out HNL.out hac2 hBs ?_);intro v' w5 HO5 hb5 HF;have HP6:=Lib.hid (HP5.out.pushed HO4.out HNL.out HFS.out HF.out.1 HF.out.2 hb5);have hb6:=hb4.trans hb5;clear HO4 HNL HF HP5 hb5 hb4;go_wp2_with fail;go_roundw
    case rel=>exact ⟨k+1,acc++[t],P2,by omega,by go_num,by show _=_;rw [List.length_append,hac.out];rfl,fun h=>absurd h (by simp),by show _∧_;rw [←HLP.out];exact HK3.out,(by show World.ownsRow _ _ _ _ _ _ _;simpa using HO5.out),HP6,hb6⟩
    case measure=>simp [intOf];omega
   ·obtain ⟨te,xv,rfl⟩:=HI.out.1.some_inv hc;have hcd:cd=er.code:=HI.out.2.1.symm;obtain ⟨_,_,_,hp5,_⟩:=id HP5.out;have HE5:=Lib.hid hp5.ft.env;have C:=Lib.hid (scBare_any HI.out.1 hc HE5.out);clear hp5 HI;go_wp2_with fail;refine C.out.mono ?_;clear C;rintro e w5 ⟨⟨k5,hk5,hek,rfl⟩,hb5⟩;have HE6:=Lib.hid (HE5.out.ext hb5);have hme:=Tryz.methodError;go_wp2_with fail;refine (errError_any HE6.out k5 hk5).mono ?_;rintro e w6 ⟨⟨s,rfl,HSX,hsz⟩,rfl⟩;clear hme;have HK3:=Lib.hid (HK2.out s (by rw [HL.out,hcd,hek,if_pos (by simp)];exact HSX.out));have HLP:Hid ((lineS P (bl z)).2=P2):=by show _=_;rw [HL.out]
    have HO6:=Lib.hid (owns_below HO4.out hb5);have HP7:=Lib.hid (HP5.out.below hb5);have hb7:=hb4.trans (hb5.mono hb4.size);have hBs:=hb7.size;clear HO4 HP5 HE5 HE6 hb5 hb4 HK2 HL hcd hek hc HSX;go_wp2_with (at_builtin;refine push_out rfl _ _ rfl rfl rfl HO6.out HNL.out hac2 hBs ?_);intro v' w8 HO5 hb8 HF;have HP6:=Lib.hid (HP7.out.pushed HO6.out HNL.out HFS.out HF.out.1 HF.out.2 hb8);have hb6:=hb7.trans hb8;clear HO6 HNL HF HP7 hb8 hb7;go_wp2_with fail;go_roundw
    case rel=>exact ⟨k+1,acc++[s],P2,by omega,by go_num,by show _=_;rw [List.length_append,hac.out];rfl,fun h=>absurd h (by simp),by show _∧_;rw [←HLP.out];exact HK3.out,(by show World.ownsRow _ _ _ _ _ _ _;simpa using HO5.out),HP6,hb6⟩
    case measure=>simp [intOf];omega
  ·obtain rfl:k=ls.length:=by omega
   have HA2:Hid (acc.map bl=linesS play0 (ls.map bl)):=by have:=HA.out.1;rwa [List.take_length] at this
   clear HA HP;go_wp2_with fail;go_ret2;exact ⟨⟨_,acc,rfl,HA2,HO⟩,hbr⟩
def helloL:List (List UInt8):=[[112,97,99,107,32,104,116,116,112,58,47,47,104,47,120,32,97,61,104,105],[115,117,109,32,97,61,104,105],[119,97,110,116,32,119,32,104,116,116,112,58,47,47,104,47,120,32,112,97,99,107,32,48,32,115,49,49,56,56,51,50,49,52,56],[102,101,116,99,104,32,119],[102,101,116,99,104,32,119],[108,111,99,107]]
def helloA:List (List UInt8):=[[111,107],[115,49,49,56,56,51,50,49,52,56],[111,107],[104,116,116,112,58,47,47,104,47,120,32,111,107,32,97,61,104,105],[104,101,108,100,32,97,61,104,105],[119]]
theorem hello_lines:linesS play0 helloL=helloA:=by decide+kernel
theorem push_all {w:World} {sv:Value} {ts:List ByteArray} {ops:Array Oper} {rest:List Oper} {o:Oper} {a:Act} {Q:Exit→Act→World→Prop} (hg:o.guard=none) (p q:Operand) (hop:o.op=Op.call {callee:=Callee.builtin Builtin.append,args:=#[p,q],argTypes:=#[22,22]})
  (hs:a.eval p=.slice none 0 0) (hx:a.eval q=sv) (hrow:RowP w sv ts) (hn:ts.length≤1000000)
  (hK:∀v' w',Hid (w'.ownsRow w.heap.size 9 1 v' ts.length (ts.map Value.string))→Below w.heap.size w w'→wpList Tryz.prog ops Q rest (a.put o.dst v') w'):wpList Tryz.prog ops Q (o::rest) a w:=by
 obtain ⟨i0,hi0,hz0,hz1,hz2⟩:=info_parts Tryz.infoStrP;refine wpList_append_src w hg p q 22 hop w.heap.size 9 i0 (.string ⟨#[]⟩) 1 16 Tryz.underlying22 hi0 hz0 hz1 hz2 rfl (by decide) (.slice none 0 0) 0 [] hs (World.ownsRow_nil _ _ _ _) sv ts.length (ts.map Value.string) hx hrow.srcs (by unfold maxLen;omega) (by omega) (Nat.le_refl _) ?_;intro v' w' h1 h2;exact hK v' w' (by show World.ownsRow _ _ _ _ _ _ _;simpa using h1) ((Below.refl _ _).grown h2 (Nat.le_refl _) (fun g e=>by cases e))
theorem RowP.own {w:World} {base:Nat} {v:Value} {l:List ByteArray} (h:w.ownsRow base 9 1 v l.length (l.map Value.string)):RowP w v l:=by
 rcases h.2 with ⟨rfl,h0⟩|⟨g,cap,cur,rfl,hb,hg,hn,hc,hsz,ht⟩
 ·refine ⟨none,0,by rw [h0],by omega,Nat.zero_le _,fun _=>rfl,fun i hi=>by omega⟩
 ·refine ⟨_,cap,rfl,hn,hc,(fun h=>by cases h),fun i hi=>⟨g,0,rfl,(Array.getElem?_eq_some_iff.1 hg).1,fun k hk=>?_⟩⟩;have:=h.cells (g:=g) rfl k (.string l[k]) (by rw [List.getElem?_map,List.getElem?_eq_getElem hk];rfl);rw [Addr.add_lit] at this;exact this
theorem lit_row (w:World) (ls:List ByteArray) (h:ls.length≤maxLen):RowP (w.alloc (.cells (ls.map Value.string).toArray 9)) (.slice (some ⟨w.heap.size,0,none⟩) ls.length ls.length) ls:=
 ⟨_,ls.length,rfl,Nat.le_refl _,h,(fun h=>by cases h),fun i hi=>⟨w.heap.size,0,rfl,by simp,fun k hk=>by rw [World.cell?_alloc_at _ _ _ _ rfl];simp [hk]⟩⟩
theorem own_lit (w:World) (ls:List ByteArray) (h:ls.length≤maxLen):Row encStr 1 (w.alloc (.cells (ls.map Value.string).toArray 9)) (.slice (some ⟨w.heap.size,0,none⟩) ls.length ls.length) ls:=Row.block1 Value.string w ls 9 h w.heap.size _ rfl rfl
theorem strs_flatS:∀zs:List ByteArray,zs.flatMap encStr=zs.map Value.string
 | []=>rfl
 |z::zs=>by rw [List.flatMap_cons,strs_flatS zs];rfl
theorem own_row {w:World} {base:Nat} {v:Value} {zs:List ByteArray} (h:w.ownsRow base 9 1 v zs.length (zs.map Value.string)):Row encStr 1 w v zs:=Row.of_owns (enc:=encStr) (fun _=>rfl) (by rw [strs_flatS];exact h)
def LLPost (most:Nat) (ls:List ByteArray) (w:World) (e:Ending) (w':World):Prop:=(e=.returned (.int .i64 1)∨(e=.returned (.int .i64 0)∧ls.length≤most∧Hid (∀z∈ls,z.size≤200)))∧w=w'
theorem longLines_any (v:Value) (ls:List ByteArray) (most:Nat) (_:most≤1000) (w:World) (hv:RowP w v ls):
  Calls Tryz.prog 6 #[v,.int .i64 (most:Int)] w (LLPost most ls w):=by
 obtain ⟨ao,cap,rfl,h1,h2,_,H3⟩:=hv;have HM:=Lib.hid H3;clear H3;by_cases hl:ls.length≤most
 ·have hli:¬(most:Int)<(ls.length:Int):=by omega
  go_enter Tryz.func6,Tryz.ntmps6;go_wp2_with fail
  go_loop [5] (fun i=>∃k:Nat,k≤ls.length∧i=.int .i64 k∧Hid (∀z∈ls.take k,z.size≤200)) (fun i=>ls.length- (intOf i).toNat)
  case atStart=>exact ⟨0,Nat.zero_le _,rfl,fun _ h=>by cases h⟩
  case round=>
   obtain ⟨k,hk,rfl,HA⟩:=hrel;by_cases hlt:k<ls.length
   ·obtain ⟨b,off,rfl,hbl,hcell⟩:=HM.out k hlt;have z0:=hcell k hlt;have HT:Hid (ls.take (k+1)=ls.take k++[ls[k]]):=by show _=_;rw [List.take_add_one,List.getElem?_eq_getElem hlt];rfl
    obtain ⟨z,hz⟩:∃z,ls[k]=z:=⟨_,rfl⟩;rw [hz] at z0 HT;clear hcell hz;by_cases h200:200<z.size
    ·have hd:(200:Int)<(z.size:Int):=by omega
     go_wp2_with fail;go_ret;exact ⟨.inl rfl,rfl⟩
    ·have hd:¬(200:Int)<(z.size:Int):=by omega
     have HA2:Hid (∀y∈ls.take (k+1),y.size≤200):=fun y hy=>by
      rw [HT.out] at hy;rcases List.mem_append.1 hy with h|h
      ·exact HA.out y h
      ·rcases List.mem_singleton.1 h with rfl;omega
     clear HA HT;go_wp2_with fail;go_round
     case rel=>exact ⟨k+1,by omega,by go_num,HA2⟩
     case measure=>simp [intOf];omega
   ·obtain rfl:k=ls.length:=by omega
    have HA2:Hid (∀y∈ls,y.size≤200):=by have:=HA.out;rwa [List.take_length] at this
    clear HA;go_wp2_with fail;go_ret;exact ⟨.inr ⟨rfl,hl,HA2⟩,rfl⟩
 ·have hli:(most:Int)<(ls.length:Int):=by omega
  go_enter Tryz.func6,Tryz.ntmps6;go_wp2_with fail;go_ret;exact ⟨.inl rfl,rfl⟩
theorem hello_any {E:Nat→Addr} {w:World} (hE:FtEnv E w):
  Calls Tryz.prog 5 #[] w fun e w'=>e=.returned (.bool true)∧Below w.heap.size w w':=by
 have HE:=Lib.hid hE;have hsum:(sumL (bl ⟨#[97,32,102,32,50,10,104,105,10]⟩):Nat)=118832148:=by decide+kernel
 have CS:Hid (∀W:World,Calls Tryz.prog 12 #[.string ⟨#[97,32,102,32,50,10,104,105,10]⟩] W fun e w'=>e=.returned (.int .i64 118832148)∧W=w'):=fun W=>by
  have:=refSumOf_any ⟨#[97,32,102,32,50,10,104,105,10]⟩ W (by decide);rw [hsum] at this;exact this
 have CT:Hid (∀W:World,Calls Tryz.prog 11 #[.int .i64 118832148] W fun e w'=>∃t:ByteArray,e=.returned (.string t)∧Hid (bl t=115::Lib.decDigits 118832148)∧t.size=10∧Below W.heap.size W w'):=fun W=>by
  refine (refText_ok 118832148 (by decide) W).mono ?_;rintro e w' ⟨t,rfl,HT,hb⟩;exact ⟨t,rfl,HT,by rw [←bl_length,HT.out];decide+kernel,hb⟩
 clear hE hsum;go_enter Tryz.func5,Tryz.ntmps5;go_wp2_with fail;refine (CS.out _).mono ?_;rintro e w1 ⟨rfl,rfl⟩;go_wp2_with fail;refine (CT.out _).mono ?_;rintro e w2 ⟨t,rfl,HT,hts,hb1⟩;go_wp2_with fail;have hls:∀z∈([⟨#[112,97,99,107,32,104,116,116,112,58,47,47,104,47,120,32,97,61,104,105]⟩,⟨#[115,117,109,32,97,61,104,105]⟩,⟨#[119,97,110,116,32,119,32,104,116,116,112,58,47,47,104,47,120,32,112,97,99,107,32,48,32]⟩++t,⟨#[102,101,116,99,104,32,119]⟩,⟨#[102,101,116,99,104,32,119]⟩,⟨#[108,111,99,107]⟩]:List ByteArray),z.size≤1000:=by
  intro z hz;simp only [List.mem_cons,List.mem_nil_iff,or_false] at hz;rcases hz with rfl|rfl|rfl|rfl|rfl|rfl
  all_goals first
   |decide
   |(rw [ByteArray.size_append,hts];decide)
 have hlb:([⟨#[112,97,99,107,32,104,116,116,112,58,47,47,104,47,120,32,97,61,104,105]⟩,⟨#[115,117,109,32,97,61,104,105]⟩,⟨#[119,97,110,116,32,119,32,104,116,116,112,58,47,47,104,47,120,32,112,97,99,107,32,48,32]⟩++t,⟨#[102,101,116,99,104,32,119]⟩,⟨#[102,101,116,99,104,32,119]⟩,⟨#[108,111,99,107]⟩]:List ByteArray).map bl=helloL:=by
  simp only [List.map_cons,List.map_nil,bl_append,show bl t=_ from HT.out];decide+kernel
 have hal:Below w2.heap.size w2 (w2.alloc (.cells (([⟨#[112,97,99,107,32,104,116,116,112,58,47,47,104,47,120,32,97,61,104,105]⟩,⟨#[115,117,109,32,97,61,104,105]⟩,⟨#[119,97,110,116,32,119,32,104,116,116,112,58,47,47,104,47,120,32,112,97,99,107,32,48,32]⟩++t,⟨#[102,101,116,99,104,32,119]⟩,⟨#[102,101,116,99,104,32,119]⟩,⟨#[108,111,99,107]⟩]:List ByteArray).map Value.string).toArray 9)):=(Below.refl _ _).alloc (Nat.le_refl _) _;have C:=scRun_any (E:=E) (.slice (some ⟨w2.heap.size,0,none⟩) 6 6) [⟨#[112,97,99,107,32,104,116,116,112,58,47,47,104,47,120,32,97,61,104,105]⟩,⟨#[115,117,109,32,97,61,104,105]⟩,⟨#[119,97,110,116,32,119,32,104,116,116,112,58,47,47,104,47,120,32,112,97,99,107,32,48,32]⟩++t,⟨#[102,101,116,99,104,32,119]⟩,⟨#[102,101,116,99,104,32,119]⟩,⟨#[108,111,99,107]⟩] (w2.alloc (.cells (([⟨#[112,97,99,107,32,104,116,116,112,58,47,47,104,47,120,32,97,61,104,105]⟩,⟨#[115,117,109,32,97,61,104,105]⟩,⟨#[119,97,110,116,32,119,32,104,116,116,112,58,47,47,104,47,120,32,112,97,99,107,32,48,32]⟩++t,⟨#[102,101,116,99,104,32,119]⟩,⟨#[102,101,116,99,104,32,119]⟩,⟨#[108,111,99,107]⟩]:List ByteArray).map Value.string).toArray 9)) (by refine lit_row w2 _ ?_;show (6:Nat)≤maxLen;unfold maxLen;omega) (show (6:Nat)≤80 by decide) hls (HE.out.ext (hb1.trans (hal.mono hb1.size)));rw [hlb] at C;unfold RunPost at C;rw [hello_lines] at C;have HAL:=Lib.hid (hb1.trans (hal.mono hb1.size));refine C.mono ?_;clear C hls hlb hal hts HT hb1;rintro e w3 ⟨⟨ov,zs,rfl,HZ,HO⟩,hb3⟩;have hb3':=HAL.out.trans (hb3.mono HAL.out.size);have HOW:=Lib.hid HO.out;obtain ⟨oo,oc,rfl⟩:=row_form HO.out;clear hb3 HO;go_wp2_with fail;refine (CS.out _).mono ?_;rintro e w4 ⟨rfl,rfl⟩;go_wp2_with fail;refine (CT.out _).mono ?_;rintro e w5 ⟨t2,rfl,HT,hts,hb5⟩;go_wp2_with fail;have hal:Below w5.heap.size w5 (w5.alloc (.cells (([⟨#[111,107]⟩,t2,⟨#[111,107]⟩,⟨#[104,116,116,112,58,47,47,104,47,120,32,111,107,32,97,61,104,105]⟩,⟨#[104,101,108,100,32,97,61,104,105]⟩,⟨#[119]⟩]:List ByteArray).map Value.string).toArray 9)):=(Below.refl _ _).alloc (Nat.le_refl _) _;have hab:([⟨#[111,107]⟩,t2,⟨#[111,107]⟩,⟨#[104,116,116,112,58,47,47,104,47,120,32,111,107,32,97,61,104,105]⟩,⟨#[104,101,108,100,32,97,61,104,105]⟩,⟨#[119]⟩]:List ByteArray).map bl=helloA:=by
  simp only [List.map_cons,List.map_nil,show bl t2=_ from HT.out];decide+kernel
 have hz6:zs.length=6:=by have:=congrArg List.length HZ.out;simpa [helloA] using this
 have C:=sameTexts_same (w:=w5.alloc (.cells (([⟨#[111,107]⟩,t2,⟨#[111,107]⟩,⟨#[104,116,116,112,58,47,47,104,47,120,32,111,107,32,97,61,104,105]⟩,⟨#[104,101,108,100,32,97,61,104,105]⟩,⟨#[119]⟩]:List ByteArray).map Value.string).toArray 9)) (v:= .slice oo zs.length oc) (u:= .slice (some ⟨w5.heap.size,0,none⟩) 6 6) (xs:=zs) (ys:=[⟨#[111,107]⟩,t2,⟨#[111,107]⟩,⟨#[104,116,116,112,58,47,47,104,47,120,32,111,107,32,97,61,104,105]⟩,⟨#[104,101,108,100,32,97,61,104,105]⟩,⟨#[119]⟩]) ((own_row HOW.out).ext (hb5.trans (hal.mono hb5.size))) (by refine own_lit w5 _ ?_;show (6:Nat)≤maxLen;unfold maxLen;omega) (HZ.out.trans hab.symm) (by omega);have hbz:=hb3'.trans ((hb5.trans (hal.mono hb5.size)).mono hb3'.size);refine C.mono ?_;clear C hab hal HZ HOW hts HT hb5;rintro e w6 ⟨rfl,hb6⟩;go_wp2_with fail;go_ret;exact ⟨rfl,hbz.trans (hb6.mono hbz.size)⟩
theorem strs_first (ao:Option Addr) (n cap k:Nat) (_:k≤n) (_:n≤cap) (W:World):(Instr.slice 22 (.slice ao n cap) none (some (.int .i64 (k:Int))) none).run Tryz.prog W=.ok (.slice ao k cap) W:=by
 have e:ao.map (·.add 0)=ao:=by cases ao<;>simp [Addr.add]
 rw [run_slice_h W 22 ao n cap (by kernel_rfl) .i64 (k:Int) (by omega) (by omega)];by_cases h:cap=0<;>simp [sliced,go_sem,h]
theorem RowP.upto {W:World} {ao:Option Addr} {n cap k:Nat} {l:List ByteArray} (h:RowP W (.slice ao n cap) l) (hk:k≤l.length):RowP W (.slice ao k cap) (l.take k):=by
 obtain ⟨ao2,cap2,e,h1,h2,h3,h4⟩:=h
 cases e;have hl:(l.take k).length=k:=by rw [List.length_take];omega
 refine ⟨ao,cap,by rw [hl],by omega,h2,h3,fun i hi=>?_⟩;obtain ⟨b,off,e,hb,hc⟩:=h4 i (by omega);exact ⟨b,off,e,hb,fun j hj=>by rw [List.getElem_take];exact hc j (by omega)⟩
theorem Row.upto {W:World} {ao:Option Addr} {n cap k:Nat} {l:List ByteArray} (h:Row encStr 1 W (.slice ao n cap) l) (hk:k≤l.length):Row encStr 1 W (.slice ao k cap) (l.take k):=by
 rcases h with ⟨e,rfl⟩|⟨b,off,cap2,e,h1,h2,h3,h4⟩
 ·cases e;obtain rfl:k=0:=by simpa using hk
  exact .inl ⟨rfl,rfl⟩
 ·cases e;have hl:(l.take k).length=k:=by rw [List.length_take];omega
  refine .inr ⟨b,off,cap,by rw [hl],by omega,h2,h3,fun i hi j hj=>?_⟩;rw [List.getElem_take];exact h4 i (by omega) j hj
theorem errCoded4 {E:Nat→Addr} {w:World} {c:Nat} (hE:Env E w) (h:c≤13):Calls Tryz.prog 9 #[errV E c,.int .i64 c] w fun e w'=>e=.returned (.bool true)∧Below w.heap.size w w':=by
 have hv:IsErr E w (errV E c) ⟨c,none⟩:=by
  cases c with
  |zero=>exact IsErr.nil E w
  |succ k=>exact IsErr.base E w k (by omega)
 have hc:=Lib.hid (code_any hE hv);clear hE hv;generalize errV E c=ev at hc⊢;obtain ⟨k,hk⟩:∃k:Int,(c:Int)=k:=⟨_,rfl⟩;have e1:(((⟨c,none⟩:Er).code:Nat):Int)=k:=hk;have e2:(⟨c,none⟩:Er).at?.getD (-1)=(-1:Int):=rfl;rw [e1,e2] at hc;rw [hk];clear e1 e2 hk h;go_enter Tryz.func9,Tryz.ntmps9;go_wp2_with fail;refine hc.out.mono ?_;rintro e w' ⟨rfl,hb⟩;go_wp2_with fail;go_ret;exact ⟨by simp,hb⟩
theorem scriptAgain_walk {E:Nat→Addr} {w:World} (hE:FtEnv E w) (v:Value) (l:List ByteArray) (cut:Int) (hv:RowP w v l):
  Calls Tryz.prog 4 #[v,.int .i64 cut] w fun e w'=>e=.returned (.bool true)∧Below w.heap.size w w':=by
 have HE:=Lib.hid hE;have HV:=Lib.hid hv;have C:=Lib.hid (hello_any hE);obtain ⟨ao,cap,rfl,h1,h2,-⟩:=hv;clear hE;go_enter Tryz.func4,Tryz.ntmps4;go_wp2_with fail;refine C.out.mono ?_;clear C;rintro e w1 ⟨rfl,hb1⟩;have C:Hid (Calls Tryz.prog 6 #[.slice ao l.length cap,.int .i64 82] w1 (LLPost 82 l w1)):=longLines_any _ l 82 (by omega) w1 (HV.out.ext hb1);go_wp2_with fail;refine C.out.mono ?_;clear C;rintro e w2 ⟨rfl|⟨rfl,hl,HZ⟩,rfl⟩
 ·go_wp2_with fail;go_ret;exact ⟨rfl,hb1⟩
 by_cases hc0:cut<0
 ·go_wp2_with fail;go_ret;exact ⟨rfl,hb1⟩
 by_cases hc1:(l.length:Int)<cut
 ·go_wp2_with fail;go_ret;exact ⟨rfl,hb1⟩
 obtain ⟨k,rfl⟩:∃k:Nat,cut=(k:Int):=⟨cut.toNat,by omega⟩;have hkl:k≤l.length:=by omega
 clear hc0 hc1;go_wp2_with (at_builtin;refine push_all rfl _ _ rfl rfl rfl (HV.out.ext hb1) (by omega) ?_);intro xv w2 HX hb2;have HR:=Lib.hid (RowP.own HX.out);have hb2':=hb1.trans (hb2.mono hb1.size);clear HX hb2 hb1;by_cases h80:l.length≤80;rotate_left
 ·have hd:(80:Int)<(l.length:Int):=by omega
  have C:=Lib.hid (scRun_full xv l w2 HR.out (by omega) (HE.out.ext hb2'));go_wp2_with fail;refine C.out.mono ?_;clear C;rintro e w3 ⟨rfl,hb3⟩;have hb3':=hb2'.trans (hb3.mono hb2'.size);have C:Hid (Calls Tryz.prog 9 #[sentV E 1,.int .i64 2] w3 fun e w'=>e=.returned (.bool true)∧Below w3.heap.size w3 w'):=errCoded4 (c:=2) (HE.out.ext hb3').env (by omega);go_wp2_with fail;refine C.out.mono ?_;clear C;rintro e w4 ⟨rfl,hb4⟩;go_wp2_with fail;go_ret;exact ⟨rfl,hb3'.trans (hb4.mono hb3'.size)⟩
 ·have hd:¬(80:Int)<(l.length:Int):=by omega
  have hz1:∀z∈l,z.size≤1000:=fun z hz=>by have:=HZ.out z hz;omega
  have C:=Lib.hid (scRun_any xv l w2 HR.out h80 hz1 (HE.out.ext hb2'));have hsl:=strs_first ao l.length cap k hkl h1;go_wp2_with fail;refine C.out.mono ?_;clear C HR;rintro e w3 ⟨⟨av,us,rfl,HA,HO⟩,hb3⟩;have hb3':=hb2'.trans (hb3.mono hb2'.size);have hal:us.length=l.length:=by have:=congrArg List.length HA.out;simpa [linesS_len] using this
  have HOA:=Lib.hid (own_row HO.out);obtain ⟨ao3,cap3,rfl⟩:=row_form HO.out;rw [hal] at HOA;rw [hal];have hcap3:us.length≤cap3:=by
   rcases HO.out.2 with ⟨e,h0⟩|⟨g,c2,cur,e,_,_,hn,_⟩
   ·obtain ⟨-,e2,e3⟩:=Value.slice.inj e;omega
   ·obtain ⟨-,e2,e3⟩:=Value.slice.inj e;omega
  rw [hal] at hcap3;clear HO hb3 hb2';have hka:k≤us.length:=by omega
  go_wp2_with (at_builtin;refine push_all rfl _ _ rfl rfl rfl ((HV.out.ext hb3').upto hkl) (by rw [List.length_take];omega) ?_);intro yv w4 HY hb4;have hb4':=hb3'.trans (hb4.mono hb3'.size);have HR:=Lib.hid (RowP.own (l:=l.take k) (by rw [List.length_take,Nat.min_eq_left hkl,List.map_take];exact HY.out));have C:=Lib.hid (scRun_any yv (l.take k) w4 HR.out (by rw [List.length_take];omega) (fun z hz=>hz1 z (List.mem_of_mem_take hz)) (HE.out.ext hb4'));have HOB:=Lib.hid (HOA.out.ext hb4);clear HY HR HOA hsl;go_wp2_with fail;refine C.out.mono ?_;clear C;rintro e w5 ⟨⟨bv,bs,rfl,HB,HO⟩,hb5⟩;have hb5':=hb4'.trans (hb5.mono hb4'.size);have hbl:bs.length=k:=by have:=congrArg List.length HB.out;simpa [linesS_len,hkl] using this
  have hsl:=strs_first ao3 l.length cap3 k hkl hcap3;obtain ⟨ao5,cap5,hbv⟩:=row_form HO.out;have C:=sameTexts_same ((HOB.out.ext hb5).upto hka) (own_row HO.out) (by rw [List.map_take,HA.out,HB.out,List.map_take,linesS_take]) (by rw [List.length_take];omega);subst hbv;rw [hbl] at C⊢;have HC:=Lib.hid C;clear C HO HOB HB HA;go_wp2_with fail;refine HC.out.mono ?_;rintro e w6 ⟨rfl,hb6⟩;go_wp2_with fail;go_ret;exact ⟨rfl,hb5'.trans (hb6.mono hb5'.size)⟩
end Go.Proofs.YtaabgmbjmfjdjaaGreatDoor
