import Derived.Test.YtaabgmbjmfjdjaaGreatDoorJLockSetsEtc
import Derived.Test.YtaabgmbjmfjdjaaGreatDoorJShopTurnsEtc
import Derived.Deep.RegionHeld3
import Derived.Test.YtaabgmbjmfjdjaaGreatDoorJShopLoadEtc
import Derived.Test.YtaabgmbjmfjdjaaGreatDoorJScNumEtc
import Derived.Test.YtaabgmbjmfjdjaaGreatDoorJSummed
import Derived.Test.YtaabgmbjmfjdjaaGreatDoorJCodesLeEtc
import Derived.Test.YtaabgmbjmfjdjaaGreatDoorJPackedUpEtc
import Derived.Test.YtaabgmbjmfjdjaaGreatDoorJLockPlainsEtc
namespace Go.Proofs.YtaabgmbjmfjdjaaGreatDoor
open Go Go.RowKit
set_option maxHeartbeats 4000000
set_option maxRecDepth 100000
def wWantB:ByteArray:=⟨#[119,97,110,116,32]⟩
theorem bl_wwant (s:ByteArray):bl (wWantB++s)=recW wWant (bl s):=by rw [bl_append];rfl
theorem wantS_no {S:ShopS} {t:TapeS} {x:WantB} (h:(setLk S.lock x).1.code≠0):wantS S t x=((setLk S.lock x).1,S,t):=by unfold wantS;rw [if_pos h]
theorem wantS_full {S:ShopS} {t:TapeS} {x:WantB} (h:(setLk S.lock x).1.code=0) (h2:(appT t (recW wWant (wantTx x))).1≠0):wantS S t x=(⟨(appT t (recW wWant (wantTx x))).1,none⟩,S,(appT t (recW wWant (wantTx x))).2):=by unfold wantS;rw [if_neg (by omega),if_pos h2]
theorem wantS_done {S:ShopS} {t:TapeS} {x:WantB} (h:(setLk S.lock x).1.code=0) (h2:(appT t (recW wWant (wantTx x))).1=0):wantS S t x=(⟨0,none⟩,{S with lock:=(setLk S.lock x).2},(appT t (recW wWant (wantTx x))).2):=by unfold wantS;rw [if_neg (by omega),if_neg (by omega)]
theorem wantTx_size {x:WantB} (h:SmallW x) {t:ByteArray} (ht:bl t=wantTx x):t.size≤200000:=by
 have h1:=wantTx_len x;rw [←ht,bl_length] at h1;obtain ⟨a,b,c⟩:=h;omega
theorem shopWant_any {E:Nat→Addr} (B nb sb tn:Nat) (n:NetB) (S:ShopS) (t:TapeS) (x:WantB) (w:World) (h:ProgIs w B nb sb n S t tn) (hl:S.lock.length≤10000) (hS:∀f∈S.lock,SmallW f) (hx:SmallW x) (hBw:B≤w.heap.size) (hE:ShEnv E B w):
  Calls Tryz.prog 84 #[.pointer (some ⟨sb,0,none⟩),.agg #[.string x.name,.string x.url,.string x.kind,.int .i64 x.strip,.int .i64 x.sum]] w (ErPost E B nb sb tn n (wantS S t x) w):=by
 obtain ⟨px,hpx⟩:∃px,w.heap.size=px:=⟨_,rfl⟩;obtain ⟨wx,hwx⟩:∃wx,w.alloc (.cells #[.string x.name,.string x.url,.string x.kind,.int .i64 x.strip,.int .i64 x.sum] 134)=wx:=⟨_,rfl⟩;have hbx:Below w.heap.size w wx:=by rw [←hwx];exact (Below.refl _ _).alloc (Nat.le_refl _) _
 have BX:=Lib.hid (show WBox wx px x by rw [←hwx,←hpx];exact WBox.new w x);obtain ⟨hb,tb,rv,lv,rl,hA⟩:=h;have HAx:=Lib.hid (hA.below hbx);have HE:=Lib.hid hE;have HX:=Lib.hid hx;have HWX:=Lib.hid hwx;have HPX:=Lib.hid hpx;have hbxB:=hbx.mono hBw;have HBX:=Lib.hid hbxB;have KX:=Lib.hid (show Keeps PRow B w wx from Keeps.of hbx hBw);have hBwx:B≤wx.heap.size:=Nat.le_trans hBw hbx.size;have hdr:Below wx.heap.size wx wx.drew:=below_drewN _ _ 1;have C:=lockSet_any lv S.lock x wx.drew (HAx.out.below hdr).lock.arg hl hS hx (hE.env wx.drew (hbxB.trans (hdr.mono hBwx))).1.1.1;obtain ⟨r,hr⟩:∃r,setLk S.lock x=r:=⟨_,rfl⟩;have KN:=Lib.hid (@wantS_no S t x);have KF:=Lib.hid (@wantS_full S t x);have KO:=Lib.hid (@wantS_done S t x);rw [hr] at C KN KF KO;obtain ⟨er,l2⟩:=r;unfold LSetPost at C;dsimp only at C KN KF KO;have HC:=Lib.hid C;have K0:Hid (∀W,Below wx.heap.size wx W→W.cell? ⟨sb,2,none⟩=some lv∧W.cell? ⟨px,0,none⟩=some (.string x.name)∧W.cell? ⟨px,1,none⟩=some (.string x.url)∧W.cell? ⟨px,2,none⟩=some (.string x.kind)∧W.cell? ⟨px,3,none⟩=some (.int .i64 x.strip)∧W.cell? ⟨px,4,none⟩=some (.int .i64 x.sum)):=fun W hW=>⟨(HAx.out.below hW).cells.2.2.1,(BX.out.ext hW).cells⟩
 clear C hr hA hE hx hwx hpx hbx hbxB;obtain ⟨c2,b0,b1,b2,b3,b4⟩:=K0.out wx (Below.refl _ _);go_enter Tryz.func84,Tryz.ntmps84;go_upto_region 1 with fail
 rw [HWX.out,HPX.out];go_region_held3 (fun W:World=>W.cell? ⟨sb,2,none⟩=some lv∧W.cell? ⟨px,0,none⟩=some (.string x.name)∧W.cell? ⟨px,1,none⟩=some (.string x.url)∧W.cell? ⟨px,2,none⟩=some (.string x.kind)∧W.cell? ⟨px,3,none⟩=some (.int .i64 x.strip)∧W.cell? ⟨px,4,none⟩=some (.int .i64 x.sum)) (first|exact ⟨c2,b0,b1,b2,b3,b4⟩|exact K0.out _ hdr|exact K0.out _ hb1x)
  (first
   |(go_at_call 118;refine HC.out.mono ?_;rintro e w1 ⟨⟨v1,ev,rfl,HI,HO⟩,hb1⟩;obtain ⟨oa,oc,rfl⟩:=WOwn.shape HO.out;have hb1x:=hdr.trans (hb1.mono hdr.size))
   |fail)
 all_goals
  have HA1:=Lib.hid (HAx.out.below hb1x);have BX1:=Lib.hid (BX.out.ext hb1x);have hbB:=HBX.out.trans (hb1x.mono hBwx);have hB1:B≤w1.heap.size:=Nat.le_trans hBwx hb1x.size;have K1:Hid (Keeps PRow B w w1):=KX.out.trans (Keeps.of hb1x hBwx);have HO1:Hid (WOwn w1 B (.slice oa l2.length oc) l2):=WOwn.low HO.out hBwx;clear hb1 HO HC K0 c2 b0 b1 b2 b3 b4 hdr;by_cases hz:er.code=0
  ·obtain rfl:ev=.nilIface:=HI.out.zero hz;have K2:Hid (∀W,Below w1.heap.size w1 W→W.cell? ⟨sb,4,none⟩=some (.pointer (some ⟨tb,0,none⟩))∧W.cell? ⟨px,0,none⟩=some (.string x.name)∧W.cell? ⟨px,1,none⟩=some (.string x.url)∧W.cell? ⟨px,2,none⟩=some (.string x.kind)∧W.cell? ⟨px,3,none⟩=some (.int .i64 x.strip)∧W.cell? ⟨px,4,none⟩=some (.int .i64 x.sum)):=fun W hW=>⟨(HA1.out.below hW).cells.2.2.2.2,(BX1.out.ext hW).cells⟩
   have HTX:Hid (∀W,Below w1.heap.size w1 W→Calls Tryz.prog 119 #[.agg #[.string x.name,.string x.url,.string x.kind,.int .i64 x.strip,.int .i64 x.sum]] W fun e w'=>(∃tx:ByteArray,e=.returned (.string tx)∧Hid (bl tx=wantTx x)∧¬(9223372036854775807<5+tx.size))∧Below w1.heap.size w1 w'):=fun W hW=>by
    refine (wantText_any x W (by have:=HX.out.1;omega) (by have:=HX.out.2.1;omega) (by have:=HX.out.2.2;omega) (HE.out.env W (hbB.trans (hW.mono hB1))).1.1).mono ?_;rintro e w' ⟨⟨tx,rfl,htx⟩,hb⟩;exact ⟨⟨tx,rfl,htx,by have:=wantTx_size HX.out htx.out;omega⟩,hW.trans (hb.mono hW.size)⟩
   have hle:=appT_le t (recW wWant (wantTx x));have CA:∀(W:World) (tx:ByteArray),Below w1.heap.size w1 W→bl tx=wantTx x→Calls Tryz.prog 33 #[.pointer (some ⟨tb,0,none⟩),.string (wWantB++tx)] W (TAppPost E B tb (appT t (recW wWant (wantTx x))) W):=fun W tx hW htx=>by
    have hWB:=hbB.trans (hW.mono hB1);have:=tapeApp_any B tb t (wWantB++tx) W (HA1.out.below hW).tape (Nat.le_trans hB1 hW.size) (HE.out.env W hWB).1.1.2 (HE.out.env W hWB).env HE.out.low;rwa [bl_wwant,htx] at this
   obtain ⟨ar,har⟩:∃ar,appT t (recW wWant (wantTx x))=ar:=⟨_,rfl⟩;have hkf:=KF.out hz;have hko:=KO.out hz;rw [har] at CA hle hkf hko;obtain ⟨ac,at2⟩:=ar;unfold TAppPost at CA;dsimp only at CA hle hkf hko;unfold wWantB at CA;have HCA:=Lib.hid CA;have HKF:=Lib.hid hkf;have HKO:=Lib.hid hko;have hd1:Below w1.heap.size w1 w1.drew:=below_drewN _ _ 1;obtain ⟨c4,b0,b1,b2,b3,b4⟩:=K2.out w1 (Below.refl _ _);clear CA har hz KN KF KO HI hkf hko;go_wp2_with fail;go_region_held3 (fun W:World=>W.cell? ⟨sb,4,none⟩=some (.pointer (some ⟨tb,0,none⟩))∧W.cell? ⟨px,0,none⟩=some (.string x.name)∧W.cell? ⟨px,1,none⟩=some (.string x.url)∧W.cell? ⟨px,2,none⟩=some (.string x.kind)∧W.cell? ⟨px,3,none⟩=some (.int .i64 x.strip)∧W.cell? ⟨px,4,none⟩=some (.int .i64 x.sum)) (first|exact ⟨c4,b0,b1,b2,b3,b4⟩|exact K2.out _ hd1|exact K2.out _ hb2|exact d3)
    (first
     |(go_at_call 33;refine (HCA.out _ _ hb2 HTT.out).mono ?_;rintro e w3 ⟨rfl,ht3,hk3⟩;have hk3w:=hk3;have d3:=And.intro ((HA1.out.below hb2).turnTape hk3 ht3).cells.2.2.2.2 (show WBox w3 px x from hk3.keep px _ (BX1.out.ext hb2) (kt_other _ (by decide) (by decide) _ _)).cells)
     |(go_at_call 119;refine (HTX.out _ hd1).mono ?_;rintro e w2 ⟨⟨tx,rfl,HTT,hcat⟩,hb2⟩)
     |fail)
   all_goals
    have HA3:=Lib.hid ((HA1.out.below hb2).turnTape hk3 ht3);have K3:=Lib.hid ((K1.out.trans (Keeps.of hb2 hB1)).trans hk3.p_tape);have HO3:Hid (WOwn w3 B (.slice oa l2.length oc) l2):=hk3.owns (WOwn.ext HO1.out hb2) (fun cs=>kt_other _ (by decide) (by decide) cs _);have hB3:B≤w3.heap.size:=Nat.le_trans hB1 (Nat.le_trans hb2.size hk3.below.size);obtain ⟨c0,c1,c2,c3,c4'⟩:=HA3.out.cells;have f2:=HA3.out.froz 2;clear ht3 hk3 hk3w d3 HTX HCA K2 HTT hb2 c4 b0 b1 b2 b3 b4
    cases ac with
    |zero=>
     have HY:=Lib.hid (HKO.out rfl);rw [show errV E 0=.nilIface from rfl];have HA4:=Lib.hid (HA3.out.setLock HO3.out hB3);have HK4:=Lib.hid (K3.out.trans (HA3.out.store 2 (.slice oa l2.length oc) hB3).p_shop);clear HKF HKO;go_wp2_with fail;go_ret;rw [HY.out];exact ⟨⟨_,rfl,.inl ⟨rfl,rfl⟩⟩,⟨_,_,_,_,_,HA4.out⟩,HK4⟩
    |succ ac=>
     have HY:=Lib.hid (HKF.out (Nat.succ_ne_zero _));rw [show errV E (ac+1)=sentV E ac from rfl];clear HKF HKO;go_wp2_with fail;go_ret;rw [HY.out];exact ⟨⟨_,rfl,errV_is hle⟩,⟨_,_,_,_,_,HA3.out⟩,K3⟩
  ·have HY:=Lib.hid (KN.out hz);obtain ⟨ty,y,rfl⟩:=HI.out.some_inv hz;clear hz KN KF KO;go_wp2_with fail;go_ret;rw [HY.out];exact ⟨⟨_,rfl,HI⟩,⟨_,_,_,_,_,HA1.out⟩,K1⟩
section
variable {E:Nat→Addr} {w:World} {B nb sb pb tn:Nat} {kv:Value} {P:PlayS}
theorem cmdUnwant_any (a:ByteArray) (v:Value) (h:Plays E w B nb sb pb tn kv P) (hv:SPart w B v [a]) (_:a.size≤1000) (_:tn<100000000):
  Calls Tryz.prog 45 #[.pointer (some ⟨pb,0,none⟩),v] w (CmdPost E B pb tn kv ((unwantS P.shop P.tape a).1.code,okW,{P with shop:=(unwantS P.shop P.tape a).2.1,tape:=(unwantS P.shop P.tape a).2.2}) w):=by
 refine post_hide fun R0 HR0=>?_
 obtain ⟨g,off,cap,rfl,hc1,hc2,R⟩:=h.words hv;have HH:=Lib.hid h;have hbw:=Below.refl w.heap.size w;clear hv h;go_enter Tryz.func45,Tryz.ntmps45;have KS:Hid (∀W,Keeps PRow B w W→W.cell? ⟨pb,0,none⟩=some (.pointer (some ⟨sb,0,none⟩))∧W.cell? ⟨g,off,none⟩=some (.string a)):=fun W hW=>⟨(R W hW).p0,(R W hW).ws 0 (by simp)⟩
 have hdr:Below w.heap.size w w.drew:=hbw.trans ((below_drewN _ _ 1).mono hbw.size);obtain ⟨d0,d1⟩:=KS.out _ (HH.out.fresh hbw);have hd:=HH.out.below hdr;have C:=Lib.hid (shopUnwant_any (E:=E) B nb sb tn P.net P.shop P.tape a w.drew hd.prog hd.few hd.op.lock.small (by omega) hd.size hd.env);have HS:=Lib.hid (unwantS_ok HH.out.has.choose_spec a);have HF:=Lib.hid (HH.out.full.of (unwantS_rules P.shop P.tape a));obtain ⟨r,hrr⟩:∃r,unwantS P.shop P.tape a=r:=⟨_,rfl⟩;rw [hrr] at C HS HF;obtain ⟨er,S2,t2⟩:=r;have HRR:=Lib.hid hrr;clear hrr hd;clear R;go_wp2_with fail;go_region_held3 (fun W:World=>W.cell? ⟨pb,0,none⟩=some (.pointer (some ⟨sb,0,none⟩))∧W.cell? ⟨g,off,none⟩=some (.string a)) (first|exact ⟨d0,d1⟩|exact x2|exact KS.out _ (HH.out.fresh hdr))
  (first
   |(go_at_call 85;refine C.out.mono ?_;rintro e w2 ⟨⟨ev,rfl,HI⟩,HP,HK⟩;have x2:=KS.out _ ((HH.out.fresh hdr).trans HK.out))
   |fail)
 all_goals
  go_wp2_with fail;go_ret2;rw [←HR0.out];rw [HRR.out];exact CmdPost.turn HH.out ((HH.out.fresh hdr).trans HK.out) HP.out HS.out HF.out (by omega) HI.out rfl
theorem sumW_eq:∀l,sumW l=readS l
 | []=>rfl
 |c::l=>by
  unfold sumW readS;by_cases h:c=115
  ·subst h;cases hn:numOf l 10<;>simp [hn]
  ·simp [h]
theorem cmdWant_any (a b c u z:ByteArray) (v:Value) (h:Plays E w B nb sb pb tn kv P) (hv:SPart w B v [a,b,c,u,z]) (_:a.size≤1000) (_:b.size≤1000) (_:c.size≤1000) (_:u.size≤1000) (_:z.size≤1000) (_:tn<100000000):
  Calls Tryz.prog 44 #[.pointer (some ⟨pb,0,none⟩),v] w (CmdPost E B pb tn kv (match numOf (bl u) 9,sumW (bl z) with|some n,some m=>((wantS P.shop P.tape (mkW (bl a) (bl b) (bl c) n m)).1.code,okW,{P with shop:=(wantS P.shop P.tape (mkW (bl a) (bl b) (bl c) n m)).2.1,tape:=(wantS P.shop P.tape (mkW (bl a) (bl b) (bl c) n m)).2.2})|_,_=>(1,[],P)) w):=by
 refine post_hide fun R0 HR0=>?_
 obtain ⟨g,off,cap,rfl,hc1,hc2,R⟩:=h.words hv;have HH:=Lib.hid h;have C:=Lib.hid (scNumber_any (E:=E) u w (by omega) h.ft.tape.1 h.ft.tape.2.1 h.ft.env);have q3:w.cell? ⟨g,off+3,none⟩=some (.string u):=(R w (Keeps.refl _ _ _)).ws 3 (by simp);clear hv h;go_enter Tryz.func44,Tryz.ntmps44;go_wp2_with fail;refine C.out.mono ?_;clear C q3;rintro e w1 ⟨⟨k,rfl,HK,hk9⟩|⟨rfl,HK⟩,hb1⟩
 ·have q4:=(R w1 (HH.out.fresh hb1)).ws 4 (by simp);have h1:=HH.out.below hb1;have C:=Lib.hid (sumRead_any z (sentV E 0) w1 (by omega) h1.ft.tape.1 h1.ft.tape.2.1 h1.ft.env.eText);clear h1;go_wp2_with fail;refine C.out.mono ?_;clear C q4;rintro e w2 (⟨m,rfl,HM,hm,hb2⟩|⟨rfl,HM,hb2⟩)
  ·have hbw:=hb1.trans (hb2.mono hb1.size);clear hb1 hb2;have hx:SmallW (mkW (bl a) (bl b) (bl c) k m):=by unfold SmallW mkW;rw [bytes_bl,bytes_bl,bytes_bl];exact ⟨by show a.size≤_;omega,by show b.size≤_;omega,by show c.size≤_;omega⟩
   have KS:Hid (∀W,Keeps PRow B w W→W.cell? ⟨pb,0,none⟩=some (.pointer (some ⟨sb,0,none⟩))∧W.cell? ⟨g,off,none⟩=some (.string a)∧W.cell? ⟨g,off+1,none⟩=some (.string b)∧W.cell? ⟨g,off+2,none⟩=some (.string c)):=fun W hW=>⟨(R W hW).p0,(R W hW).ws 0 (by simp),(R W hW).ws 1 (by simp),(R W hW).ws 2 (by simp)⟩
   have hdr:Below w.heap.size w w2.drew:=hbw.trans ((below_drewN _ _ 1).mono hbw.size);obtain ⟨d0,d1,d2,d3⟩:=KS.out _ (HH.out.fresh hbw);have hd:=HH.out.below hdr;have C:=Lib.hid (show Calls Tryz.prog 84 #[.pointer (some ⟨sb,0,none⟩),.agg #[.string a,.string b,.string c,.int .i64 (k:Int),.int .i64 (m:Int)]] w2.drew (ErPost E B nb sb tn P.net (wantS P.shop P.tape (mkW (bl a) (bl b) (bl c) k m)) w2.drew) by have:=shopWant_any (E:=E) B nb sb tn P.net P.shop P.tape (mkW (bl a) (bl b) (bl c) k m) w2.drew hd.prog hd.few hd.op.lock.small hx hd.size hd.env;unfold mkW at this⊢;rw [bytes_bl,bytes_bl,bytes_bl] at this⊢;exact this);have HS:=Lib.hid (wantS_ok HH.out.has.choose_spec (mkW (bl a) (bl b) (bl c) k m));have HF:=Lib.hid (HH.out.full.of (wantS_rules P.shop P.tape (mkW (bl a) (bl b) (bl c) k m)));obtain ⟨r,hrr⟩:∃r,wantS P.shop P.tape (mkW (bl a) (bl b) (bl c) k m)=r:=⟨_,rfl⟩;rw [hrr] at C HS HF;obtain ⟨er,S2,t2⟩:=r;have HRR:=Lib.hid hrr;clear hrr hd;clear R;go_wp2_with fail;go_region_held3 (fun W:World=>W.cell? ⟨pb,0,none⟩=some (.pointer (some ⟨sb,0,none⟩))∧W.cell? ⟨g,off,none⟩=some (.string a)∧W.cell? ⟨g,off+1,none⟩=some (.string b)∧W.cell? ⟨g,off+2,none⟩=some (.string c)) (first|exact ⟨d0,d1,d2,d3⟩|exact x2|exact KS.out _ (HH.out.fresh hdr))
    (first
     |(go_at_call 84;refine C.out.mono ?_;rintro e w2 ⟨⟨ev,rfl,HI⟩,HP,HK2⟩;have x2:=KS.out _ ((HH.out.fresh hdr).trans HK2.out))
     |fail)
   all_goals
    go_wp2_with fail;go_ret2;rw [←HR0.out];rw [show numOf (bl u) 9=some k from HK.out,sumW_eq,show readS (bl z)=some m from HM.out];dsimp only;rw [HRR.out];exact CmdPost.turn HH.out ((HH.out.fresh hdr).trans HK2.out) HP.out HS.out HF.out (by omega) HI.out rfl
  ·clear R;go_wp2_with fail;go_ret2;rw [←HR0.out,show numOf (bl u) 9=some k from HK.out,sumW_eq,show readS (bl z)=none from HM.out];exact CmdPost.bad (er:=⟨1,none⟩) HH.out (hb1.trans (hb2.mono hb1.size)) (IsErr.sent (by decide)) (by simp) _
 ·clear R;go_wp2_with fail;go_ret2;rw [←HR0.out,show numOf (bl u) 9=none from HK.out];exact CmdPost.bad (er:=⟨1,none⟩) HH.out hb1 (IsErr.sent (by decide)) (by simp) _
theorem cmdDrop_any (a:ByteArray) (v:Value) (h:Plays E w B nb sb pb tn kv P) (hv:SPart w B v [a]) (_:a.size≤1000) (_:tn<100000000):
  Calls Tryz.prog 48 #[.pointer (some ⟨pb,0,none⟩),v] w (CmdPost E B pb tn kv (match sumW (bl a) with|none=>(1,[],P)|some n=>((dropS P.shop P.tape n).1,okW,{P with shop:=(dropS P.shop P.tape n).2.1,tape:=(dropS P.shop P.tape n).2.2})) w):=by
 refine post_hide fun R0 HR0=>?_
 obtain ⟨g,off,cap,rfl,hc1,hc2,R⟩:=h.words hv;have HH:=Lib.hid h;have C:=Lib.hid (sumRead_any a (sentV E 0) w (by omega) h.ft.tape.1 h.ft.tape.2.1 h.ft.env.eText);have q0:w.cell? ⟨g,off,none⟩=some (.string a):=(R w (Keeps.refl _ _ _)).ws 0 (by simp);clear hv h;go_enter Tryz.func48,Tryz.ntmps48;go_wp2_with fail;refine C.out.mono ?_;clear C q0;rintro e w1 (⟨m,rfl,HM,hm,hdr⟩|⟨rfl,HM,hdr⟩)
 ·have d0:=(R w1 (HH.out.fresh hdr)).p0;have hd:=HH.out.below hdr;have C:=Lib.hid (shopDrop_any (E:=E) B nb sb tn P.net P.shop P.tape (m:Int) w1 hd.prog hd.held ⟨by omega,by omega⟩ hd.size hd.env);have HS:=Lib.hid (dropS_ok HH.out.has.choose_spec (m:Int));have HF:=Lib.hid (HH.out.full.of (dropS_rules P.shop P.tape (m:Int)));obtain ⟨r,hrr⟩:∃r,dropS P.shop P.tape (m:Int)=r:=⟨_,rfl⟩;rw [hrr] at C HS HF;obtain ⟨cd,S2,t2⟩:=r;have HRR:=Lib.hid hrr;clear hrr hd;clear R;go_wp2_with fail;refine C.out.mono ?_;rintro e w2 ⟨rfl,h13,HP,HK⟩;go_wp2_with fail;go_ret2;rw [←HR0.out];rw [sumW_eq,show readS (bl a)=some m from HM.out];dsimp only;rw [HRR.out];exact CmdPost.turn HH.out ((HH.out.fresh hdr).trans HK.out) HP.out HS.out HF.out (by omega) (errV_is h13) rfl
 ·clear R;go_wp2_with fail;go_ret2;rw [←HR0.out,sumW_eq,show readS (bl a)=none from HM.out];exact CmdPost.bad (er:=⟨1,none⟩) HH.out hdr (IsErr.sent (by decide)) (by simp) _
theorem tapeSet_any {E:Nat→Addr} {B b:Nat} {t:TapeS} (n:Nat) {w:World} (h:TapeIs w B b t) (hn:n<1000000000) (hE:Env E w):
  Calls Tryz.prog 96 #[.pointer (some ⟨b,0,none⟩),.int .i64 (n:Int)] w (TAppPost E B b (cutT t n) w):=by
 obtain ⟨⟨hB,v,hb,hbuf⟩,hfit,hcut⟩:=id h;obtain ⟨bs,off,c⟩:=t;dsimp only at hb hbuf hfit hcut;have c1:w.cell? ⟨b,1,none⟩=some (.bool off):=by rw [Lib.cell_of_heap hb];rfl
 have c2:w.cell? ⟨b,2,none⟩=some (.int .i64 c):=by rw [Lib.cell_of_heap hb];rfl
 have f2:w.frozen? ⟨b,2,none⟩=false:=Lib.frozen_of_heap hb 2;have e13:=hE.eOff;obtain ⟨p1,p2,p3⟩:=disk_put hB hb 2 (.int .i64 (n:Int));have h0:¬(n:Int)<0:=by omega
 cases off with
 |true=>
  have H:Hid (cutT ⟨bs,true,c⟩ n=(13,⟨bs,true,c⟩)):=by show _=_;unfold cutT;rw [if_neg h0,if_pos rfl]
  have HT:=Lib.hid h;clear hcut hfit p1 p2 p3 hE h;go_enter Tryz.func96,Tryz.ntmps96;go_wp2_with fail;go_ret;rw [H.out];exact ⟨rfl,HT.out,Keeps.refl _ _ _⟩
 |false=>
  have H:Hid (cutT ⟨bs,false,c⟩ n=(0,⟨bs,false,n⟩)):=by show _=_;unfold cutT;rw [if_neg h0,if_neg (by simp)]
  have HP1:=Lib.hid p1;clear hE h;go_enter Tryz.func96,Tryz.ntmps96;go_wp2_with fail;go_ret;rw [H.out];exact ⟨rfl,⟨⟨hB,v,HP1.out,p3 _ _ hbuf⟩,hfit,by show-1≤(n:Int);omega,by show (n:Int)≤_;omega⟩,p2.keeps⟩
theorem cmdFail_any (a:ByteArray) (v:Value) (h:Plays E w B nb sb pb tn kv P) (hv:SPart w B v [a]) (_:a.size≤1000) (_:tn<100000000):
  Calls Tryz.prog 52 #[.pointer (some ⟨pb,0,none⟩),v] w (CmdPost E B pb tn kv (match numOf (bl a) 9 with|none=>(1,[],P)|some n=>((cutT P.tape n).1,okW,{P with tape:=(cutT P.tape n).2})) w):=by
 refine post_hide fun R0 HR0=>?_
 obtain ⟨g,off,cap,rfl,hc1,hc2,R⟩:=h.words hv;have HH:=Lib.hid h;have C:=Lib.hid (scNumber_any (E:=E) a w (by omega) h.ft.tape.1 h.ft.tape.2.1 h.ft.env);have q0:w.cell? ⟨g,off,none⟩=some (.string a):=(R w (Keeps.refl _ _ _)).ws 0 (by simp);clear hv h;go_enter Tryz.func52,Tryz.ntmps52;go_wp2_with fail;refine C.out.mono ?_;clear C q0;rintro e w1 ⟨⟨k,rfl,HK,hk9⟩|⟨rfl,HK⟩,hdr⟩
 ·have d0:=(R w1 (HH.out.fresh hdr)).p0;have h1:=HH.out.below hdr;obtain ⟨hb,tb,rv,lv,rl,hp⟩:=h1.prog;have HA:=Lib.hid hp;have C:=Lib.hid (shopTape_any hp);have C2:=Lib.hid (tapeSet_any (E:=E) k hp.tape hk9 h1.ft.env);have HC:Hid (∃recs,Shopped P.shop (cutT P.tape k).2 recs):=by obtain ⟨recs,hs⟩:=HH.out.has;exact ⟨recs,hs.shop,cutT_has hs.tape (by omega)⟩
  have h13:(cutT P.tape k).1≤13:=by unfold cutT;split;exact Nat.le_of_ble_eq_true rfl;split<;>exact Nat.le_of_ble_eq_true rfl
  obtain ⟨r,hrr⟩:∃r,cutT P.tape k=r:=⟨_,rfl⟩;rw [hrr] at C2 HC h13;obtain ⟨cd,t2⟩:=r;have HRR:=Lib.hid hrr;clear hrr h1 hp R;go_wp2_with fail;refine C.out.mono ?_;rintro e w2 ⟨rfl,rfl⟩;go_wp2_with fail;refine C2.out.mono ?_;rintro e w2 ⟨rfl,ht2,hk⟩;have HP:Hid (ProgIs w2 B nb sb P.net P.shop t2 tn):=⟨hb,tb,rv,lv,rl,HA.out.turnTape hk ht2⟩;clear C C2 HA ht2;go_wp2_with fail;go_ret2;rw [←HR0.out];rw [show numOf (bl a) 9=some k from HK.out];dsimp only;rw [HRR.out];exact CmdPost.turn HH.out ((HH.out.fresh hdr).trans hk.p_tape) HP.out HC.out HH.out.full (by omega) (errV_is h13) rfl
 ·clear R;go_wp2_with fail;go_ret2;rw [←HR0.out,show numOf (bl a) 9=none from HK.out];exact CmdPost.bad (er:=⟨1,none⟩) HH.out hdr (IsErr.sent (by decide)) (by simp) _
end
theorem bundle_short (h:HeldB) (l:List WantB):(bundleLk h l).2.length≤20000:=by
 by_cases h0:(bundleLk h l).1.code=0
 ·obtain ⟨all,e,hB⟩:=bundle_ok h0;rw [e];exact packL_fits ((treeOk_iff all).2 hB.made.1)
 ·rw [bundle_bad h0];exact Nat.zero_le _
theorem tryGo_short (x:WantB):∀(us:List (List UInt8)) (n:NetB) (lines:List (List UInt8)) (last:Nat),(∀u∈us,u.length≤200)→(∀z∈lines,z.length≤300)→∀z∈(tryGo x n us lines last).2.2.1,z.length≤300
 | [],_,_,_,_,h=>h
 |u::us,n,lines,last,hu,h=>by
  have h1:=hu u (List.mem_cons_self ..);have h2:=errTx_len _ (wayOne_le n u x (rightW_le x));rw [tryGo];split
  ·intro z hz;rcases List.mem_append.1 hz with hz|hz
   ·exact h z hz
   ·rcases List.mem_singleton.1 hz with rfl
    unfold okLine;rw [List.length_append];simp;omega
  ·refine tryGo_short x us _ _ _ (fun y hy=>hu y (List.mem_cons_of_mem _ hy)) fun z hz=>?_
   rcases List.mem_append.1 hz with hz|hz
   ·exact h z hz
   ·rcases List.mem_singleton.1 hz with rfl
    unfold badLine;rw [List.length_append,List.length_cons];omega
theorem fetchS_short (S:ShopS) (t:TapeS) (n:NetB) (a:ByteArray):∀z∈(fetchS S t n a).2.2.1,z.length≤300:=by
 have hF:∀x,∀z∈(fetchF S.held n S.rules x).2.2.1,z.length≤300:=by
  intro x;unfold fetchF;split
  ·intro z hz;cases hz
  ·rename_i ha;split
   ·intro z hz;rcases List.mem_singleton.1 hz with rfl;decide
   ·dsimp only;unfold tryF;split
    ·intro z hz;cases hz
    ·have hw:wantE x=0:=by
      by_cases hr:(rulesEr S.rules).code≠0
      ·rw [askE_no hr] at ha;exact absurd hr ha
      ·have:=askE_from (w:=x) (l:=S.rules) (by simpa using hr);rw [this] at ha;simpa using ha
     exact tryGo_short x _ _ _ _ (waysOut_short (wantE_zero hw).url) (fun z hz=>by cases hz)
 unfold fetchS;split
 ·intro z hz;cases hz
 ·split
  ·exact hF _
  ·split<;>exact hF _
theorem fetchS_tree {S:ShopS} {t:TapeS} {n:NetB} {a:ByteArray} (k:HeldOk S.held):(treeEr (fetchS S t n a).2.1).code=0:=by
 unfold fetchS;split
 ·rfl
 ·split
  ·rfl
  ·rename_i h0;split
   ·rfl
   ·exact fetchF_right k (by simpa using h0)
def ToldPost (x:List UInt8) (w:World) (e:Ending) (w':World):Prop:=(∃t:ByteArray,e=.returned (.string t)∧Hid (bl t=x)∧t.size≤100000000)∧Below w.heap.size w w'
theorem scTold_any {base:Nat} (v:Value) (l:List FileB) (w:World) (hv:FOwn w base v l) (hr:(treeEr l).code=0):
  Calls Tryz.prog 87 #[v] w (ToldPost (toldL l) w):=by
 obtain ⟨ao,cap,rfl,h1,h2,H3⟩:=hv.row;have HM:=Lib.hid H3;obtain ⟨hl,hsm,hps⟩:=right_small hr;have HS:=Lib.hid hsm;clear H3 hv hr hsm hps;go_enter Tryz.func87,Tryz.ntmps87;go_wp2_with fail;go_loopw [3,9] (fun ov i wr=>∃(k:Nat) (acc:List ByteArray),k≤l.length∧i=.int .i64 k∧Hid (acc.length=k)∧Hid (acc.map bl=(l.take k).map toldF∧∀z∈acc,z.size≤200000)∧Hid (wr.ownsRow w.heap.size 9 1 ov acc.length (acc.map Value.string))∧Below w.heap.size w wr) (fun _ i _=>l.length- (intOf i).toNat)
 case atStart=>exact ⟨0,[],Nat.zero_le _,rfl,rfl,⟨rfl,fun _ h=>by cases h⟩,World.ownsRow_nil _ _ _ _,Below.refl _ _⟩
 case round=>
  obtain ⟨k,acc,hk,rfl,hac,HA,HO,hbr⟩:=hrel;obtain ⟨oo,oc,rfl⟩:=row_form HO.out;by_cases hlt:k<l.length
  ·obtain ⟨b,off,rfl,hbl,hcell⟩:=HM.out k hlt;obtain ⟨x0,x1,x2⟩:=hcell k hlt;have z0:=(hbr.cell (p:=⟨b,off+k*3,none⟩) hbl).trans x0;have z1:=(hbr.cell (p:=⟨b,off+k*3+1,none⟩) hbl).trans x1;have z2:=(hbr.cell (p:=⟨b,off+k*3+2,none⟩) hbl).trans x2;have hsz:=HS.out l[k] (List.getElem_mem hlt);have HT:Hid (l.take (k+1)=l.take k++[l[k]]):=by show _=_;rw [List.take_add_one,List.getElem?_eq_getElem hlt];rfl
   obtain ⟨f,hf⟩:∃f,l[k]=f:=⟨_,rfl⟩;rw [hf] at z0 z1 z2 HT hsz;have s1:=hsz.1;have s2:=hsz.2;clear hcell x0 x1 x2 hf hsz;obtain ⟨pf,hpf⟩:∃pf,wr.heap.size=pf:=⟨_,rfl⟩;obtain ⟨wa,hwa⟩:∃wa,wr.alloc (.cells #[.string f.path,.bool f.run,.string f.text] 170)=wa:=⟨_,rfl⟩;have hal:Below wr.heap.size wr wa:=by rw [←hwa];exact (Below.refl _ _).alloc (Nat.le_refl _) _
   have hA:wa.heap[pf]? =some (.cells #[.string f.path,.bool f.run,.string f.text] 170 (0,0)):=by rw [←hwa,←hpf];exact heap_alloc_new _ _
   obtain ⟨_,_,_,a0,a1,a2⟩:=file_ready hA;have HWA:=Lib.hid hwa;have HPF:=Lib.hid hpf;have hbra:=hbr.trans (hal.mono hbr.size);have hBs:=hbra.size;have HO2:=Lib.hid (owns_below HO.out hal);have hac2:acc.length≤1000000:=by have:=hac.out;omega
   obtain ⟨p,t,hp,ht⟩:∃p t,f.path=p∧f.text=t:=⟨_,_,rfl,rfl⟩;have HTF:Hid (toldF f=(if f.run=true then [43] else [])++(bl p++61::bl t)):=by show _=_;rw [←hp,←ht];rfl
   obtain ⟨r,hr⟩:∃r,f.run=r:=⟨_,rfl⟩;rw [hp] at s1 a0;rw [ht] at s2 a2;rw [hr] at a1 HTF;have HK2:Hid (∀u:ByteArray,bl u=toldF f→u.size≤200000→(acc++[u]).map bl=(l.take (k+1)).map toldF∧∀z∈acc++[u],z.size≤200000):=fun u hu hus=>by
    refine ⟨?_,fun z hz=>?_⟩
    ·rw [HT.out,List.map_append,List.map_append,HA.out.1,List.map_singleton,List.map_singleton,hu]
    ·rcases List.mem_append.1 hz with h|h
     ·exact HA.out.2 z h
     ·rcases List.mem_singleton.1 h with rfl;exact hus
   clear HA HO HT hwa hpf hal hbr hA hp ht hr;go_upto_region 5 with fail
   rw [HWA.out,HPF.out];clear z0 z1 z2
   cases r with
   |true=>
    have HU:Hid (bl (((⟨#[43]⟩++p)++⟨#[61]⟩)++t:ByteArray)=toldF f):=by show _=_;rw [HTF.out,bl_append,bl_append,bl_append];simp;rfl
    go_wp2_with (at_builtin;refine push_str rfl _ _ rfl rfl rfl HO2.out hac2 hBs ?_);intro v' w4 HO3 hb4;have hbr4:=hbra.trans hb4;have HK3:=Lib.hid (HK2.out _ HU.out (by simp only [ByteArray.size_append];show 1+p.size+1+t.size≤_;omega));clear HO2 hb4 hbra HK2 HU;go_wp2_with fail;go_roundw
    case rel=>exact ⟨k+1,_,by omega,by go_num,by show _=_;rw [List.length_append,hac.out];rfl,HK3,(by show World.ownsRow _ _ _ _ _ _ _;simpa using HO3.out),hbr4⟩
    case measure=>simp [intOf];omega
   |false=>
    have HU:Hid (bl (((⟨#[]⟩++p)++⟨#[61]⟩)++t:ByteArray)=toldF f):=by show _=_;rw [HTF.out,bl_append,bl_append,bl_append];simp;rfl
    go_wp2_with (at_builtin;refine push_str rfl _ _ rfl rfl rfl HO2.out hac2 hBs ?_);intro v' w4 HO3 hb4;have hbr4:=hbra.trans hb4;have HK3:=Lib.hid (HK2.out _ HU.out (by simp only [ByteArray.size_append];show 0+p.size+1+t.size≤_;omega));clear HO2 hb4 hbra HK2 HU;go_wp2_with fail;go_roundw
    case rel=>exact ⟨k+1,_,by omega,by go_num,by show _=_;rw [List.length_append,hac.out];rfl,HK3,(by show World.ownsRow _ _ _ _ _ _ _;simpa using HO3.out),hbr4⟩
    case measure=>simp [intOf];omega
  ·obtain rfl:k=l.length:=by omega
   have HA2:Hid (acc.map bl=l.map toldF∧∀z∈acc,z.size≤200000):=by have:=HA.out;rwa [List.take_length] at this
   have hac2:acc.length=l.length:=hac.out
   cases l with
   |nil=>
    obtain rfl:acc=[]:=List.eq_nil_of_length_eq_zero hac2;clear HA HA2;go_wp2_with fail;go_ret;exact ⟨⟨_,rfl,rfl,by decide⟩,hbr⟩
   |cons f l=>
    have C:=Lib.hid (joinSep_any ⟨#[44]⟩ (by decide) HO.out (by omega) (fun z hz=>by have:=HA2.out.2 z hz;omega));have hne:((acc.length:Int)==0)=false:=by
     have:acc.length=l.length+1:=hac2;exact beq_eq_false_iff_ne.2 (by omega)
    have HJ:=Lib.hid (joinSep_len ⟨#[44]⟩ (by decide) acc (fun z hz=>by have:=HA2.out.2 z hz;omega));have hal:acc.length≤30:=by omega
    clear HA hac2 hac;go_wp2_with fail;refine C.out.mono ?_;rintro e w3 ⟨⟨x,rfl,HX⟩,hb3⟩;have hxs:x.size≤100000000:=by
     have h1:=HJ.out;rw [←show bl x=_ from HX.out,bl_length] at h1;have:=Nat.mul_le_mul_right 1000010 hal;omega
    have hbz:=hbr.trans (hb3.mono hbr.size);have HY:Hid (bl x=toldL (f::l)):=by show _=_;rw [HX.out,HA2.out.1];rfl
    clear HX HJ HA2 hne C;go_wp2_with fail;go_ret;exact ⟨⟨x,rfl,HY,hxs⟩,hbz⟩
section
variable {E:Nat→Addr} {w:World} {B nb sb pb tn:Nat} {kv:Value} {P:PlayS}
theorem Plays.store (h:Plays E w B nb sb pb tn kv P) (j:Nat) (x:Value):Keeps PlRow B w (w.setCell ⟨pb,j,none⟩ x):=Keeps.one (grown_set w pb j x) h.hpb h.size h.box ⟨_,_,rfl⟩
theorem free_pl:ProgFree PlRow:=ProgFree.of_type 43 (by decide)
theorem Plays.setKept (h:Plays E w B nb sb pb tn kv P) {q:Nat} {t:ByteArray} (hq:w.heap[q]? =some (.cells #[.string t] 9 (0,0))) (ht:t.size≤1000000):
  Plays E (w.setCell ⟨pb,2,none⟩ (.pointer (some ⟨q,0,none⟩))) B nb sb pb tn (.pointer (some ⟨q,0,none⟩)) {P with kept:=some (bl t)} where
 hpb:=h.hpb
 box:=by simp [World.setCell,Array.getElem?_modify,h.box]
 kept:=⟨q,t,rfl,(h.store 2 _).keep q _ hq (fun ⟨_,_,e⟩=>by injection e with _ e _;exact absurd e (by decide)),rfl,ht⟩
 prog:=h.prog.keeps (h.store 2 _) free_pl
 has:=h.has
 full:=h.full
 env:=h.env.ext (h.store 2 _).below
 size:=Nat.le_trans h.size (h.store 2 _).below.size
theorem Plays.setShop (h:Plays E w B nb sb pb tn kv P) {sb2:Nat} {S2:ShopS} {t2:TapeS} (hp:ProgIs w B nb sb2 P.net S2 t2 tn) (hs:∃recs,Shopped S2 t2 recs) (hfl:RulesFull S2):
  Plays E (w.setCell ⟨pb,0,none⟩ (.pointer (some ⟨sb2,0,none⟩))) B nb sb2 pb tn kv {P with shop:=S2,tape:=t2} where
 hpb:=h.hpb
 box:=by simp [World.setCell,Array.getElem?_modify,h.box]
 kept:=h.kept.keeps (h.store 0 _) (fun _ _ ⟨_,_,e⟩=>by injection e with _ e _;exact absurd e (by decide))
 prog:=hp.keeps (h.store 0 _) free_pl
 has:=hs
 full:=hfl
 env:=h.env.ext (h.store 0 _).below
 size:=Nat.le_trans h.size (h.store 0 _).below.size
theorem Keeps.sc_pl {w':World} (h:Keeps PlRow B w w'):Keeps ScRow B w w':=h.wide fun _ h=>.inr h
theorem cmdKeep_any (v:Value) (h:Plays E w B nb sb pb tn kv P) (_:tn<100000000):
  Calls Tryz.prog 50 #[.pointer (some ⟨pb,0,none⟩),v] w (CmdPost E B pb tn kv (if (bundleLk P.shop.held P.shop.lock).1.code≠0 then ((bundleLk P.shop.held P.shop.lock).1.code,[],P) else (0,Lib.decDigits (bundleLk P.shop.held P.shop.lock).2.length,{P with kept:=some (bundleLk P.shop.held P.shop.lock).2})) w):=by
 refine post_hide fun R0 HR0=>?_
 have C:=Lib.hid (shopBundle_any (E:=E) B nb sb tn P.net P.shop P.tape w h.prog h.few h.op.lock.small h.ft.1.1);have hsh:=bundle_short P.shop.held P.shop.lock;obtain ⟨c0,c1,c2⟩:=h.cells;have HH:=Lib.hid h;obtain ⟨r,hr⟩:∃r,bundleLk P.shop.held P.shop.lock=r:=⟨_,rfl⟩;rw [hr] at C hsh;obtain ⟨er,tx⟩:=r;have HRR:=Lib.hid hr;clear hr h;go_enter Tryz.func50,Tryz.ntmps50;go_wp2_with fail;refine C.out.mono ?_;clear C c0 c1 c2;rintro e w1 ⟨⟨t,ev,rfl,HT,HI⟩,hb1⟩;have hts:t.size≤20000:=by rw [←bl_length,HT.out];exact hsh
 obtain ⟨q,hq⟩:∃q,w1.heap.size=q:=⟨_,rfl⟩;obtain ⟨wa,hwa⟩:∃wa,w1.alloc (.cells #[.string t] 9)=wa:=⟨_,rfl⟩;have hal:Below w1.heap.size w1 wa:=by rw [←hwa];exact (Below.refl _ _).alloc (Nat.le_refl _) _
 have hA:wa.heap[q]? =some (.cells #[.string t] 9 (0,0)):=by rw [←hwa,←hq];exact heap_alloc_new _ _
 have hba:=hb1.trans (hal.mono hb1.size);have hqw:w.heap.size≤q:=by rw [←hq];exact hb1.size
 have HHa:=Lib.hid (HH.out.below hba);have HQ:=Lib.hid hq;have HWA:=Lib.hid hwa;have HAA:=Lib.hid hA;have HI2:=Lib.hid (HI.out.ext hal);clear hq hwa hal hb1 hA HI hsh;go_upto_region 2 with fail
 rw [HWA.out,HQ.out];by_cases hz:er.code=0
 ·have HZ:=Lib.hid hz;obtain rfl:ev=.nilIface:=HI2.out.zero hz;obtain ⟨c0,c1,c2⟩:=HHa.out.cells;have f2:wa.frozen? ⟨pb,2,none⟩=false:=Lib.frozen_of_heap HHa.out.box 2;have H2:=Lib.hid (HHa.out.setKept HAA.out (by omega));have HK:=Lib.hid (HHa.out.store 2 (.pointer (some ⟨q,0,none⟩)));have HQ2:Hid ((wa.setCell ⟨pb,2,none⟩ (.pointer (some ⟨q,0,none⟩))).heap[q]? =some (.cells #[.string t] 9 (0,0))):=HK.out.keep q _ HAA.out (fun ⟨_,_,e⟩=>by injection e with _ e _;exact absurd e (by decide));have HTX:Hid (tx=bl t):=HT.out.symm;have C:=Lib.hid (itoa_any t.size (by omega) (wa.setCell ⟨pb,2,none⟩ (.pointer (some ⟨q,0,none⟩))) H2.out.ft.1.1.2);have q0:(wa.setCell ⟨pb,2,none⟩ (.pointer (some ⟨q,0,none⟩))).cell? ⟨q,0,none⟩=some (.string t):=by rw [Lib.cell_of_heap HQ2.out];rfl
  clear HI2 HT hz;go_wp2_with fail;refine C.out.mono ?_;rintro e w3 ⟨d,rfl,HD,_,hb3⟩;go_wp2_with fail;go_ret2;rw [←HR0.out];rw [HRR.out];dsimp only;rw [if_neg (by simpa using HZ.out),HTX.out,bl_length];exact ⟨⟨d,_,⟨0,none⟩,rfl,.inl ⟨rfl,rfl⟩,rfl,fun _=>HD.out⟩,⟨nb,sb,_,(H2.out.below hb3).later (Nat.le_add_right _ _),.inr ⟨q,rfl,hqw⟩⟩,((HH.out.fresh hba).sc_prog.trans HK.out.sc_pl).trans (H2.out.fresh hb3).sc_prog⟩
 ·have HZ:=Lib.hid hz;obtain ⟨te,xv,rfl⟩:=HI2.out.some_inv hz;clear HT HAA;go_wp2_with fail;go_ret2;rw [←HR0.out];rw [HRR.out];dsimp only;rw [if_pos HZ.out];exact CmdPost.bad HH.out hba HI2.out HZ.out _
theorem cmdLoad_any (v:Value) (h:Plays E w B nb sb pb tn kv P) (_:tn<100000000):
  Calls Tryz.prog 51 #[.pointer (some ⟨pb,0,none⟩),v] w (CmdPost E B pb tn kv (match P.kept with|none=>(6,[],P)|some s=>((loadS P.shop P.tape s).1.code,okW,{P with shop:=(loadS P.shop P.tape s).2.1,tape:=(loadS P.shop P.tape s).2.2})) w):=by
 refine post_hide fun R0 HR0=>?_
 obtain ⟨c0,c1,c2⟩:=h.cells;have HH:=Lib.hid h;have hkp:=h.kept;obtain ⟨o,ho⟩:∃o,P.kept=o:=⟨_,rfl⟩;rw [ho] at hkp;have HO:=Lib.hid ho
 cases o with
 |none=>
  obtain rfl:kv=.pointer none:=hkp;have e5:=h.ft.env.eNone;clear h ho;go_enter Tryz.func51,Tryz.ntmps51;go_wp2_with fail;go_quiet (fail);go_wp2_with fail;go_ret2;rw [←HR0.out];rw [show P.kept=none from HO.out];exact CmdPost.bad (er:=⟨6,none⟩) HH.out (below_drewN _ _ _) (IsErr.sent (by decide)) (by simp) _
 |some s=>
  obtain ⟨q,t,rfl,hq,rfl,hts⟩:=hkp;have hdr:Below w.heap.size w w.drew:=below_drewN _ _ 1;have hd:=h.below hdr;have C:=Lib.hid (shopLoad_any (E:=E) B nb sb tn P.net P.shop P.tape t w.drew hd.prog hd.few hd.op.lock.small hts hd.most hd.size hd.env);have HS:=Lib.hid (loadS_ok h.has.choose_spec (bl t));have HF:=Lib.hid (h.full.of (loadS_rules P.shop P.tape (bl t)));have KS:Hid (∀W,Keeps PRow B w W→W.cell? ⟨pb,0,none⟩=some (.pointer (some ⟨sb,0,none⟩))∧W.cell? ⟨pb,2,none⟩=some (.pointer (some ⟨q,0,none⟩))∧W.cell? ⟨q,0,none⟩=some (.string t)):=fun W hW=>by
   have hb:=hW.keep pb _ HH.out.box (kp_other _ (by decide) (by decide) (by decide) (by decide) (by decide) _ _);have hg:=hW.keep q _ hq (kp_other _ (by decide) (by decide) (by decide) (by decide) (by decide) _ _);exact ⟨by rw [Lib.cell_of_heap hb];rfl,by rw [Lib.cell_of_heap hb];rfl,by rw [Lib.cell_of_heap hg];rfl⟩
  obtain ⟨d0,d1,d2⟩:=KS.out _ (Keeps.refl _ _ _);obtain ⟨r,hrr⟩:∃r,loadS P.shop P.tape (bl t)=r:=⟨_,rfl⟩;rw [hrr] at C HS HF;obtain ⟨er,S2,t2⟩:=r;have HRR:=Lib.hid hrr;clear hrr hd h ho hq c0 c1 c2;go_enter Tryz.func51,Tryz.ntmps51;go_wp2_with fail;go_region_held3 (fun W:World=>W.cell? ⟨pb,0,none⟩=some (.pointer (some ⟨sb,0,none⟩))∧W.cell? ⟨pb,2,none⟩=some (.pointer (some ⟨q,0,none⟩))∧W.cell? ⟨q,0,none⟩=some (.string t)) (first|exact ⟨d0,d1,d2⟩|exact x2|exact KS.out _ (HH.out.fresh hdr))
   (first
    |(go_at_call 94;refine C.out.mono ?_;rintro e w2 ⟨⟨ev,rfl,HI⟩,HP,HK⟩;have x2:=KS.out _ ((HH.out.fresh hdr).trans HK.out))
    |fail)
  all_goals
   go_wp2_with fail;go_ret2;rw [←HR0.out];rw [show P.kept=some (bl t) from HO.out];dsimp only;rw [HRR.out];have hx:=CmdPost.turn HH.out ((HH.out.fresh hdr).trans HK.out) HP.out HS.out HF.out (by omega) HI.out rfl;rw [show P.kept=some (bl t) from HO.out] at hx;exact hx
theorem cmdAgain_any (v:Value) (h:Plays E w B nb sb pb tn kv P) (_:tn<100000000):
  Calls Tryz.prog 53 #[.pointer (some ⟨pb,0,none⟩),v] w (CmdPost E B pb tn kv (0,okW,{P with tape:=recT P.tape}) w):=by
 refine post_hide fun R0 HR0=>?_
 have HH:=Lib.hid h;have hdr:Below w.heap.size w w.drew:=below_drewN _ _ 1;have hd:=h.below hdr;obtain ⟨hb,tb,rv,lv,rl,hp⟩:=hd.prog;obtain ⟨recs,hs⟩:=h.has;have hop:=hs.opens;have HS:Hid (∃recs,Shopped P.shop (recT P.tape) recs):=⟨_,hs.anew⟩;have HA:=Lib.hid hp;have CT:Hid (∀W,w.drew=W→Calls Tryz.prog 95 #[.pointer (some ⟨sb,0,none⟩)] W fun e w'=>e=.returned (.pointer (some ⟨tb,0,none⟩))∧W=w'):=fun W hW=>by subst hW;exact shopTape_any hp
 have CO:=shopOpen_any (E:=E) B nb tb tn P.net P.tape w.drew hp.net hp.tape hd.size hd.env.env;rw [hop] at CO;have HC:=Lib.hid CO;have KS:Hid (∀W,Keeps PRow B w W→W.cell? ⟨pb,0,none⟩=some (.pointer (some ⟨sb,0,none⟩))∧W.cell? ⟨pb,1,none⟩=some (.pointer (some ⟨nb,0,none⟩))):=fun W hW=>by
  have hb:=hW.keep pb _ HH.out.box (kp_other _ (by decide) (by decide) (by decide) (by decide) (by decide) _ _);exact ⟨by rw [Lib.cell_of_heap hb];rfl,by rw [Lib.cell_of_heap hb];rfl⟩
 obtain ⟨d0,d1⟩:=KS.out _ (Keeps.refl _ _ _);clear hd hp hs hop CO h;go_enter Tryz.func53,Tryz.ntmps53;go_wp2_with fail;go_region_held3 (fun W:World=>W.cell? ⟨pb,0,none⟩=some (.pointer (some ⟨sb,0,none⟩))∧W.cell? ⟨pb,1,none⟩=some (.pointer (some ⟨nb,0,none⟩))) (first|exact ⟨d0,d1⟩|exact x2|exact KS.out _ (HH.out.fresh hdr))
  (first
   |(go_at_call 97;refine HC.out.mono ?_;rintro e w2 ⟨hor,HK⟩;obtain ⟨_,hb2,sb2,rv2,lv2,rl2,rfl,HP,_⟩:=hor.resolve_right (fun hx=>hx.1 rfl);have x2:=KS.out _ ((HH.out.fresh hdr).trans HK.out.p_tape))
   |(go_at_call 95;refine (CT.out _ rfl).mono ?_;rintro e w3 ⟨rfl,rfl⟩)
   |fail)
 all_goals
  have h3:=HH.out.shop ((HH.out.fresh hdr).trans HK.out.p_tape) ⟨_,_,_,_,_,HA.out.turnTape HK.out HP.out.tape⟩ HS.out HH.out.full (Nat.le_add_right _ _);have c0:w2.cell? ⟨pb,0,none⟩=some (.pointer (some ⟨sb,0,none⟩)):=h3.cells.1;have f0:w2.frozen? ⟨pb,0,none⟩=false:=Lib.frozen_of_heap h3.box 0;have H3:=Lib.hid h3;have HPI:Hid (ProgIs w2 B nb sb2 P.net P.shop (recT P.tape) (tn+20)):=ProgIs.later ⟨_,_,_,_,_,HP.out⟩ (Nat.le_add_right _ _);have HKK:=Lib.hid ((HH.out.fresh hdr).trans HK.out.p_tape);clear h3 HA HP HK x2 hor;go_wp2_with fail;go_ret2;rw [←HR0.out];exact ⟨⟨_,_,⟨0,none⟩,rfl,.inl ⟨rfl,rfl⟩,rfl,fun _=>rfl⟩,⟨nb,sb2,kv,H3.out.setShop HPI.out HS.out HH.out.full,.inl rfl⟩,HKK.out.sc_prog.trans (H3.out.store 0 _).sc_pl⟩
theorem cmdFetch_any (a:ByteArray) (v:Value) (h:Plays E w B nb sb pb tn kv P) (hv:SPart w B v [a]) (_:a.size≤1000) (_:tn<100000000):
  Calls Tryz.prog 46 #[.pointer (some ⟨pb,0,none⟩),v] w (CmdPost E B pb tn kv ((fetchS P.shop P.tape P.net a).1.code,[59].intercalate (fetchS P.shop P.tape P.net a).2.2.1++32::toldL (fetchS P.shop P.tape P.net a).2.1,{P with shop:=(fetchS P.shop P.tape P.net a).2.2.2.1,tape:=(fetchS P.shop P.tape P.net a).2.2.2.2.1,net:=(fetchS P.shop P.tape P.net a).2.2.2.2.2}) w):=by
 refine post_hide fun R0 HR0=>?_
 obtain ⟨g,off,cap,rfl,hc1,hc2,R⟩:=h.words hv;have HH:=Lib.hid h;have hdr:Below w.heap.size w w.drew:=below_drewN _ _ 1;have hd:=h.below hdr;have C:=Lib.hid (shopFetch_any (E:=E) B nb sb tn P.net P.shop P.tape a w.drew hd.prog hd.op hd.held hd.most (by omega) hd.size hd.env);have HS:=Lib.hid (fetchS_ok h.has.choose_spec P.net a);have HFL:=Lib.hid (h.full.of (fetchS_rules P.shop P.tape P.net a));have HL:=Lib.hid (fetchS_short P.shop P.tape P.net a);have HTR:=Lib.hid (fetchS_tree (t:=P.tape) (n:=P.net) (a:=a) h.held);have KS:Hid (∀W,Keeps PRow B w W→W.cell? ⟨pb,0,none⟩=some (.pointer (some ⟨sb,0,none⟩))∧W.cell? ⟨g,off,none⟩=some (.string a)):=fun W hW=>⟨(R W hW).p0,(R W hW).ws 0 (by simp)⟩
 obtain ⟨d0,d1⟩:=KS.out _ (Keeps.refl _ _ _);obtain ⟨r,hrr⟩:∃r,fetchS P.shop P.tape P.net a=r:=⟨_,rfl⟩;rw [hrr] at C HS HFL HL HTR;obtain ⟨er,fs,ls,S2,t2,n2⟩:=r;have HRR:=Lib.hid hrr;clear hrr hd h hv R;go_enter Tryz.func46,Tryz.ntmps46;go_wp2_with fail;go_region_held3 (fun W:World=>W.cell? ⟨pb,0,none⟩=some (.pointer (some ⟨sb,0,none⟩))∧W.cell? ⟨g,off,none⟩=some (.string a)) (first|exact ⟨d0,d1⟩|exact x2|exact KS.out _ (HH.out.fresh hdr))
  (first
   |(go_at_call 86;refine C.out.mono ?_;rintro e w2 ⟨fv,lv,ev,zs,rfl,HI,HF,HZ,HZL,HP,HK⟩;have x2:=KS.out _ ((HH.out.fresh hdr).trans HK.out))
   |fail)
 all_goals
  have H2:=Lib.hid (HH.out.shop ((HH.out.fresh hdr).trans HK.out) HP.out HS.out HFL.out (Nat.le_refl _));have HKK:=Lib.hid ((HH.out.fresh hdr).trans HK.out);have hzl:=HZL.out.2;have hzs:∀z∈zs,z.size≤300:=fun z hz=>by rw [←bl_length];exact HL.out _ (by rw [←HZL.out.1];exact List.mem_map_of_mem hz)
  have HZS:=Lib.hid hzs;obtain ⟨lo,lc,rfl⟩:=row_form HZ.out;have C2:=Lib.hid (joinSep_any ⟨#[59]⟩ (by decide) HZ.out (by omega) (fun z hz=>by have:=hzs z hz;omega));have HJ:=Lib.hid (joinSep_len ⟨#[59]⟩ (by decide) zs (fun z hz=>by have:=hzs z hz;omega));clear C HP HK HZ x2 hzs HL HS;go_wp2_with fail;refine C2.out.mono ?_;clear C2;rintro e w3 ⟨⟨x,rfl,HX⟩,hb3⟩;have hxs:x.size≤100000000:=by
   have h1:=HJ.out;rw [←show bl x=_ from HX.out,bl_length] at h1;have:=Nat.mul_le_mul_right 1000010 hzl;omega
  have C3:=Lib.hid (scTold_any fv fs w3 (HF.out.ext hb3) HTR.out);clear HJ;go_wp2_with fail;refine C3.out.mono ?_;clear C3;rintro e w4 ⟨⟨y,rfl,HY,hys⟩,hb4⟩;have hb5:=hb3.trans (hb4.mono hb3.size);have HI2:=Lib.hid (HI.out.ext hb5);clear HI;go_wp2_with fail;go_ret2;rw [←HR0.out];rw [HRR.out];refine ⟨⟨_,ev,er,rfl,HI2.out,rfl,fun _=>?_⟩,⟨nb,sb,kv,H2.out.below hb5,.inl rfl⟩,HKK.out.sc_prog.trans (H2.out.fresh hb5).sc_prog⟩;show bl _=_;rw [bl_append,bl_append,HX.out,HY.out,HZL.out.1];simp;rfl
end
end Go.Proofs.YtaabgmbjmfjdjaaGreatDoor
