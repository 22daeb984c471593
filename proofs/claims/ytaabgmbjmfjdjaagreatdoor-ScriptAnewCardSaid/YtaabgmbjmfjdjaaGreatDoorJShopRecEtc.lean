import Derived.Test.YtaabgmbjmfjdjaaGreatDoorJStepSrcEtc
import Derived.Test.YtaabgmbjmfjdjaaGreatDoorJWantsUp
import Derived.Test.YtaabgmbjmfjdjaaGreatDoorJLockSetsEtc
import Derived.Test.YtaabgmbjmfjdjaaGreatDoorJSummed
import Derived.Test.YtaabgmbjmfjdjaaGreatDoorJPackReads
import Derived.Test.YtaabgmbjmfjdjaaGreatDoorJShopTurnsEtc
import Derived.Test.YtaabgmbjmfjdjaaGreatDoorJPackedUpEtc
import Derived.Test.YtaabgmbjmfjdjaaGreatDoorJLockUpEtc
namespace Go.Proofs.YtaabgmbjmfjdjaaGreatDoor
open Go Go.RowKit
set_option maxHeartbeats 4000000
set_option maxRecDepth 100000
theorem word_eqb1 (k:ByteArray):(k.toList== [114,117,108,101])=decide (bl k=wRule):=by rw [toList_bl,Bool.eq_iff_iff,beq_iff_eq,decide_eq_true_iff];rfl
theorem word_eqb2 (k:ByteArray):(k.toList== [119,97,110,116])=decide (bl k=wWant):=by rw [toList_bl,Bool.eq_iff_iff,beq_iff_eq,decide_eq_true_iff];rfl
theorem word_eqb3 (k:ByteArray):(k.toList== [117,110,119,97,110,116])=decide (bl k=wUnwant):=by rw [toList_bl,Bool.eq_iff_iff,beq_iff_eq,decide_eq_true_iff];rfl
theorem word_eqb4 (k:ByteArray):(k.toList== [104,111,108,100])=decide (bl k=wHold):=by rw [toList_bl,Bool.eq_iff_iff,beq_iff_eq,decide_eq_true_iff];rfl
theorem word_eqb5 (k:ByteArray):(k.toList== [100,114,111,112])=decide (bl k=wDrop):=by rw [toList_bl,Bool.eq_iff_iff,beq_iff_eq,decide_eq_true_iff];rfl
theorem readW_right {s:List UInt8} (h:(readW s).1=0):wantE (readW s).2=0:=by
 unfold readW at h⊢
 cases hf:fiveW (cutL 32 s) with
 |none=>rw [hf] at h;cases h
 |some x=>
  rw [hf] at h;have h0:wantE x=0:=by
   by_cases h1:wantE x≠0
   ·have h2:(if wantE x≠0 then (wantE x,zeroW) else (0,x)).1=0:=h;rw [if_pos h1] at h2;exact absurd h2 h1
   ·simpa using h1
  show wantE (if wantE x≠0 then (wantE x,zeroW) else (0,x)).2=0;rw [if_neg (by omega)];exact h0
theorem bytes_bl (b:ByteArray):(⟨(bl b).toArray⟩:ByteArray)=b:=by cases b;rfl
theorem shopAgain_any {E:Nat→Addr} (B hb sb:Nat) (p q:Option Addr) (S:ShopS) (s:ByteArray) (w:World) (h:AgIs w B hb sb (.pointer p) (.pointer q) S) (hok:OpOk S) (hs:s.size≤20000) (hBw:B≤w.heap.size) (hE:∀W,Below B w W→FtEnv E W):
  Calls Tryz.prog 132 #[.pointer (some ⟨sb,0,none⟩),.string s] w (AgPost E B hb sb (.pointer p) (.pointer q) (againS S (bl s)) w):=by
 have HA0:=Lib.hid h;have HE:=Lib.hid hE;have HOK:=Lib.hid hok;have C:=Lib.hid (strCut_any s ⟨#[32]⟩ w (by omega) (hE w (Below.refl _ _)).1.1.1.2.max);clear h hE hok;go_enter Tryz.func132,Tryz.ntmps132;go_wp2_with fail;refine C.out.mono ?_;clear C;rintro e w1 ⟨⟨a,b,is,rfl,HC,ha,hbs⟩,hb1⟩;have hbB:=hb1.mono hBw;have hB1:B≤w1.heap.size:=Nat.le_trans hBw hb1.size;have HE1:=Lib.hid (HE.out w1 hbB);have HC2:Hid (Lib.cut (bl s) [32]=(bl a,bl b,is)):=HC;have e1:w1.cell? ⟨2,0,none⟩=some (sentV E 0):=HE1.out.env.err 0 (by decide);have HEB:Hid (∀W,Below B w1 W→FtEnv E W):=fun W hW=>HE.out W (hbB.trans hW)
 cases is with
 |false=>
  have HY:Hid (againS S (bl s)=(1,S)):=againS_no (by rw [HC2.out]);clear HC HC2;go_wp2_with fail;go_ret;rw [HY.out];exact ⟨⟨_,⟨1,none⟩,rfl,IsErr.sentW (by decide),rfl⟩,fun h=>absurd (show (1:Nat)=0 from h) (by decide),hbB⟩
 |true=>
  have HY0:Hid (againS S (bl s)=agW S (bl a) (bl b)):=againS_is HC2.out;obtain ⟨rv,lv,rl,hA⟩:=HA0.out;have HA1:=Lib.hid (hA.below hb1);clear hA HC HC2 HA0 hb1;obtain ⟨c0,c1,c2,c3,c4⟩:=HA1.out.cells;have HWA:=Lib.hid HA1.out.lock.arg;have q1:=word_eqb1 a;have q2:=word_eqb2 a;have q3:=word_eqb3 a;have q4:=word_eqb4 a;have q5:=word_eqb5 a;by_cases h1:bl a=wRule
  ·rw [decide_eq_true h1] at q1;have HY:Hid (againS S (bl s)=ruledS S (cutL 32 (bl b))):=by show _=_;rw [HY0.out,h1];exact agW_rule S (bl b)
   have C:=Lib.hid (split_any b 32 w1 (by omega) HE1.out.1.1.1.2.max);clear q2 q3 q4 q5 h1 HY0;go_wp2_with fail;refine C.out.mono ?_;clear C;rintro e w2 ⟨⟨zs,n,rfl,HZ,rfl,hns,HZs,HS⟩,hb2⟩;have hB2:=hb2.mono hB1;have hz0:0<zs.length:=by
    have h:=congrArg List.length HZ.out;rw [List.length_map] at h;have:=cutL_pos 32 (bl b);omega
   have hne:rv.ownBlock≠some w1.heap.size:=fun e=>by
    obtain ⟨_,_,ho,_⟩:=HA1.out.rules;have:=(ho.lt _ e).2;omega
   have C:=Lib.hid (shopRuled_any B hb sb p q S rv lv rl w1.heap.size zs w2 (HA1.out.below hb2) HOK.out hz0 (fun z hz=>by have:=HZs.out z hz;omega) (by omega) HS.out hne (Nat.le_trans hB1 hb2.size) (fun W hW=>HEB.out W (hB2.trans hW)));clear c0 c1 c2 c3 c4 e1;go_wp2_with fail;refine C.out.mono ?_;clear C;rintro e w3 ⟨⟨ev,er,rfl,HI,hc⟩,HP,hb3⟩;have hbz:=(hbB.trans hB2).trans hb3;clear hb3;go_wp2_with fail;go_ret;rw [HY.out,←HZ.out];exact ⟨⟨_,er,rfl,HI,hc⟩,HP,hbz⟩
  rw [decide_eq_false h1] at q1;by_cases h2:bl a=wWant
  ·rw [decide_eq_true h2] at q2;have HY:=Lib.hid (HY0.out.trans ((congrArg (fun k=>agW S k (bl b)) h2).trans (agW_want S (bl b))));have C:=wantRead_any b w1 (by omega) HE1.out.1;have hr:=@readW_right (bl b);have hle:=readW_le (bl b);obtain ⟨r,hrr⟩:∃r,readW (bl b)=r:=⟨_,rfl⟩;unfold WReadPost at C;rw [hrr] at C hr hle HY;obtain ⟨c,y⟩:=r;dsimp only at C hr hle HY;have HC:=Lib.hid C;have HR:=Lib.hid hr;clear C hr hrr q3 q4 q5 h1 h2 HY0;go_wp2_with fail;refine HC.out.mono ?_;clear HC;rintro e w2 ⟨rfl,hb2⟩;rw [show wV y=.agg #[.string y.name,.string y.url,.string y.kind,.int .i64 y.strip,.int .i64 y.sum] from rfl];obtain ⟨pf,hpf⟩:∃pf,w2.heap.size=pf:=⟨_,rfl⟩;obtain ⟨wa,hwa⟩:∃wa,w2.alloc (.cells #[.string y.name,.string y.url,.string y.kind,.int .i64 y.strip,.int .i64 y.sum] 134)=wa:=⟨_,rfl⟩;have hal:Below w2.heap.size w2 wa:=by rw [←hwa];exact (Below.refl _ _).alloc (Nat.le_refl _) _
   have BX:=Lib.hid (show WBox wa pf y by rw [←hwa,←hpf];exact WBox.new w2 y);have HPF:=Lib.hid hpf;have HWA2:=Lib.hid hwa;have hba:=hb2.trans (hal.mono hb2.size);have hBa:=hba.mono hB1;have HAa:=Lib.hid (HA1.out.below hba);have e2:wa.cell? ⟨2,0,none⟩=some (sentV E 0):=(HEB.out wa hBa).env.err 0 (by decide);have hBwa:B≤wa.heap.size:=Nat.le_trans hB1 hba.size;clear c0 c1 c2 c3 c4 e1 hal hpf hwa hb2;obtain ⟨c0,c1,c2,c3,c4⟩:=HAa.out.cells;go_upto_region 9 with fail
   rw [HWA2.out,HPF.out]
   cases c with
   |succ c=>
    rw [show errV E (c+1)=sentV E c from rfl];have HY2:Hid (againS S (bl s)=(1,S)):=by show _=_;rw [HY.out,if_pos (Nat.succ_ne_zero _)]
    have hbz:=hbB.trans hBa;go_wp2_with fail;go_ret;rw [HY2.out];exact ⟨⟨_,⟨1,none⟩,rfl,IsErr.sentW (by decide),rfl⟩,fun h=>absurd (show (1:Nat)=0 from h) (by decide),hbz⟩
   |zero=>
    rw [show errV E 0=.nilIface from rfl];have HY2:Hid (againS S (bl s)=((setLk S.lock y).1.code,{S with lock:=(setLk S.lock y).2})):=by show _=_;rw [HY.out,if_neg (by simp)]
    have hdr:Below wa.heap.size wa wa.drew:=below_drewN _ _ 1;have HAd:=Lib.hid (HAa.out.below hdr);have C:=lockSet_any lv S.lock y wa.drew HAd.out.lock.arg (by have:=HOK.out.lock.few;omega) HOK.out.lock.small (small_want (HR.out rfl)) (HEB.out wa.drew (hBa.trans (hdr.mono hBwa))).1.1.1;obtain ⟨r,hr⟩:∃r,setLk S.lock y=r:=⟨_,rfl⟩;rw [hr] at C HY2;obtain ⟨er,l2⟩:=r;unfold LSetPost at C;dsimp only at C HY2;have HC:=Lib.hid C;obtain ⟨b0,b1,b2,b3,b4⟩:=BX.out.cells;have K0:Hid (∀W,Below wa.heap.size wa W→(W.cell? ⟨sb,2,none⟩=some lv∧W.frozen? ⟨sb,2,none⟩=false)):=fun W hW=>⟨(HAa.out.below hW).cells.2.2.1,(HAa.out.below hW).froz 2⟩
    clear C hr HY HR;go_wp2_with fail;obtain ⟨cd,_⟩:=K0.out wa.drew hdr;obtain ⟨e0,e1,e2',e3,e4⟩:=(BX.out.ext hdr).cells;go_region_with (first
     |(go_at_call 118;refine HC.out.mono ?_;rintro e w3 ⟨⟨v1,ev,rfl,HI,HO⟩,hb3⟩;obtain ⟨oa,oc,rfl⟩:=WOwn.shape HO.out;have hb3a:=hdr.trans (hb3.mono hdr.size);have f2:=(K0.out w3 hb3a).2;have k2:=(K0.out w3 hb3a).1))
    all_goals
     have hB3:=hb3a.mono hBwa;have HA3:=Lib.hid (HAa.out.below hb3a);have hBw3:B≤w3.heap.size:=Nat.le_trans hBwa hb3a.size;have HA4:=Lib.hid (HA3.out.setLock (WOwn.low HO.out hBwa) hBw3);obtain ⟨c0,c1,c2,c3,c4⟩:=HA3.out.cells;have HI4:=Lib.hid (HI.out.shopCell c0 2 (.slice oa l2.length oc));have hbz:Below B w (w3.setCell ⟨sb,2,none⟩ (.slice oa l2.length oc)):=((hbB.trans hBa).trans hB3).setCell (p:=⟨sb,2,none⟩) HA3.out.hsb _;clear HI HO hb3 hB3;go_wp2_with fail;go_ret;rw [HY2.out];exact ⟨⟨_,er,rfl,HI4,rfl⟩,fun _=>⟨_,_,_,HA4.out⟩,hbz⟩
  rw [decide_eq_false h2] at q2;by_cases h3:bl a=wUnwant
  ·rw [decide_eq_true h3] at q3;have HY:Hid (againS S (bl s)=((dropLk S.lock b).1.code,{S with lock:=(dropLk S.lock b).2})):=by show _=_;rw [HY0.out,h3,agW_unwant,bytes_bl]
   have C:=lockDrop_any lv S.lock b w1 HA1.out.lock.arg (by have:=HOK.out.lock.few;omega) HOK.out.lock.small HE1.out.1.1.1;obtain ⟨r,hr⟩:∃r,dropLk S.lock b=r:=⟨_,rfl⟩;rw [hr] at C HY;obtain ⟨er,l2⟩:=r;unfold LSetPost at C;dsimp only at C HY;have HC:=Lib.hid C;clear C hr q4 q5 h1 h2 h3 HY0;go_wp2_with fail;refine HC.out.mono ?_;clear HC c0 c1 c2 c3 c4 e1;rintro e w3 ⟨⟨v1,ev,rfl,HI,HO⟩,hb3⟩;obtain ⟨oa,oc,rfl⟩:=WOwn.shape HO.out;have hB3:=hb3.mono hB1;have HA3:=Lib.hid (HA1.out.below hb3);have hBw3:B≤w3.heap.size:=Nat.le_trans hB1 hb3.size;have HA4:=Lib.hid (HA3.out.setLock (WOwn.low HO.out hB1) hBw3);obtain ⟨c0,c1,c2,c3,c4⟩:=HA3.out.cells;have f2:=HA3.out.froz 2;have HI4:=Lib.hid (HI.out.shopCell c0 2 (.slice oa l2.length oc));have hbz:Below B w (w3.setCell ⟨sb,2,none⟩ (.slice oa l2.length oc)):=(hbB.trans hB3).setCell (p:=⟨sb,2,none⟩) HA3.out.hsb _;clear HI HO hb3 hB3;go_wp2_with fail;go_ret;rw [HY.out];exact ⟨⟨_,er,rfl,HI4,rfl⟩,fun _=>⟨_,_,_,HA4.out⟩,hbz⟩
  rw [decide_eq_false h3] at q3;by_cases h4:bl a=wHold
  ·rw [decide_eq_true h4] at q4;have HY:=Lib.hid (HY0.out.trans ((congrArg (fun k=>agW S k (bl b)) h4).trans (agW_hold S (bl b))));have C:=packRead_own (E:=E) b w1 (by omega) HE1.out.1;unfold PReadOwn at C;have hzz:=@read_right (bl b);obtain ⟨er,her⟩:∃er,readEr (bl b)=er:=⟨_,rfl⟩;obtain ⟨tr,htr⟩:∃tr,readT (bl b)=tr:=⟨_,rfl⟩;rw [her,htr] at C HY;rw [her,htr] at hzz;have HC:=Lib.hid C;have HZZ:=Lib.hid hzz;clear C her htr hzz q5 h1 h2 h3 h4 HY0;go_wp2_with fail;refine HC.out.mono ?_;clear HC;rintro e w2 ⟨⟨fv,ev,rfl,HF,HI⟩,hb2⟩;have hB2:=hb2.mono hB1;have HA2:=Lib.hid (HA1.out.below hb2);have e2:w2.cell? ⟨2,0,none⟩=some (sentV E 0):=(HEB.out w2 hB2).env.err 0 (by decide);clear c0 c1 c2 c3 c4 e1;obtain ⟨c0,c1,c2,c3,c4⟩:=HA2.out.cells;by_cases hz:er.code=0
   ·obtain rfl:ev=.nilIface:=HI.out.zero hz;have hrl:=right_len (HZZ.out hz);have HY2:Hid (againS S (bl s)=((putH S.held tr).1.code,{S with held:=(putH S.held tr).2.2})):=by show _=_;rw [HY.out,if_neg (by rw [hz];simp)]
    have hBw2:B≤w2.heap.size:=Nat.le_trans hB1 hb2.size;have C:=heldPut_any B hb S.held fv tr w2 (fun w' hk=>FOwn.arg (base:=w1.heap.size) (hk.owns HF.out heldRow_files)) hrl.1 hrl.2 HA2.out.held hBw2 (HEB.out w2 hB2).1.1;obtain ⟨r,hr⟩:∃r,putH S.held tr=r:=⟨_,rfl⟩;rw [hr] at C HY2;obtain ⟨er2,nn,hh2⟩:=r;unfold HPutPost at C;dsimp only at C HY2;have HC:=Lib.hid C;clear C hr hz HI HY hrl HZZ;go_wp2_with fail;refine HC.out.mono ?_;clear HC c0 c1 c2 c3 c4 e2;rintro e w3 ⟨⟨ev2,rfl,hI⟩,hh3,hk3,_⟩;have HI:=Lib.hid hI;have HA3:=Lib.hid (HA2.out.turnHeld hk3 hh3);have hbz:=(hbB.trans hB2).trans hk3.below;clear hI hh3 hk3;go_wp2_with fail;go_ret;rw [HY2.out];exact ⟨⟨_,er2,rfl,HI,rfl⟩,fun _=>⟨_,_,_,HA3.out⟩,hbz⟩
   ·obtain ⟨ty,x,rfl⟩:=HI.out.some_inv hz;have HY2:Hid (againS S (bl s)=(1,S)):=by show _=_;rw [HY.out,if_pos hz]
    have hbz:=hbB.trans hB2;clear hz HI HF;go_wp2_with fail;go_ret;rw [HY2.out];exact ⟨⟨_,⟨1,none⟩,rfl,IsErr.sentW (by decide),rfl⟩,fun h=>absurd (show (1:Nat)=0 from h) (by decide),hbz⟩
  rw [decide_eq_false h4] at q4;by_cases h5:bl a=wDrop
  ·rw [decide_eq_true h5] at q5;have HY:=Lib.hid (HY0.out.trans ((congrArg (fun k=>agW S k (bl b)) h5).trans (agW_drop S (bl b))));have C:=Lib.hid (sumNumber_any b 10 (by decide) w1 (by omega) HE1.out.1.2 HE1.out.1.1.2);clear h1 h2 h3 h4 h5 HY0;go_wp2_with fail;refine C.out.mono ?_;clear C;rintro e w2 ⟨n,ok,rfl,HN,hb2⟩;have hB2:=hb2.mono hB1;have HA2:=Lib.hid (HA1.out.below hb2);have e2:w2.cell? ⟨2,0,none⟩=some (sentV E 0):=(HEB.out w2 hB2).env.err 0 (by decide);clear c0 c1 c2 c3 c4 e1;obtain ⟨c0,c1,c2,c3,c4⟩:=HA2.out.cells;rcases HN.out with ⟨m,hm,rfl,rfl⟩|⟨hm,rfl⟩
   ·have HY2:Hid (againS S (bl s)=((dropH S.held m).1,{S with held:=(dropH S.held m).2})):=by show _=_;rw [HY.out,hm]
    have hBw2:B≤w2.heap.size:=Nat.le_trans hB1 hb2.size;have hm10:=num_ten hm;have C:=heldDrop_any B hb S.held (m:Int) (by unfold I64;omega) w2 HA2.out.held hBw2 (HEB.out w2 hB2).env;have hle:=dropHd_le S.held (m:Int);obtain ⟨r,hr⟩:∃r,dropH S.held (m:Int)=r:=⟨_,rfl⟩;rw [hr] at C HY2 hle;obtain ⟨c,hh2⟩:=r;unfold HDropPost at C;dsimp only at C HY2 hle;have HC:=Lib.hid C;clear C hr HN HY hm;go_wp2_with fail;refine HC.out.mono ?_;clear HC c0 c1 c2 c3 c4 e2;rintro e w3 ⟨rfl,hh3,hk3⟩;have HA3:=Lib.hid (HA2.out.turnHeld hk3 hh3);have hbz:=(hbB.trans hB2).trans hk3.below;clear hh3 hk3;go_wp2_with fail;go_ret;rw [HY2.out];exact ⟨⟨_,⟨c,none⟩,rfl,errV_is hle,rfl⟩,fun _=>⟨_,_,_,HA3.out⟩,hbz⟩
   ·have HY2:Hid (againS S (bl s)=(1,S)):=by show _=_;rw [HY.out,hm]
    have hbz:=hbB.trans hB2;clear HN HY hm;go_wp2_with fail;go_ret;rw [HY2.out];exact ⟨⟨_,⟨1,none⟩,rfl,IsErr.sentW (by decide),rfl⟩,fun h=>absurd (show (1:Nat)=0 from h) (by decide),hbz⟩
  rw [decide_eq_false h5] at q5;have HY:Hid (againS S (bl s)=(1,S)):=by show _=_;rw [HY0.out];exact agW_other S (bl b) h1 h2 h3 h4 h5
  clear h1 h2 h3 h4 h5 HY0;go_wp2_with fail;go_ret;rw [HY.out];exact ⟨⟨_,⟨1,none⟩,rfl,IsErr.sentW (by decide),rfl⟩,fun h=>absurd (show (1:Nat)=0 from h) (by decide),hbB⟩
theorem readL_small:∀(f:Nat) (l:List UInt8),∀s∈readL f l,s.length≤20000
 |0,l,s,h=>by unfold readL at h;cases h
 |f+1,l,s,h=>by
  unfold readL at h
  cases ho:oneL l with
  |none=>rw [ho] at h;cases h
  |some x=>
   rw [ho] at h;rcases List.mem_cons.1 h with rfl|h
   ·exact (oneL_inv ho).1
   ·exact readL_small f _ s h
theorem tapeL_small (l:List UInt8):∀s∈tapeL l,s.length≤20000:=readL_small _ _
theorem recT_eq (t:TapeS):recT t=⟨recsL (tapeL t.bytes),false,-1⟩:=by unfold recT;rw [tapeL_prefix]
theorem recsL_tape_short (l:List UInt8):(recsL (tapeL l)).length≤l.length:=by
 have:=congrArg List.length (tapeL_prefix l);rw [List.length_take] at this;omega
theorem FtEnv.tape {E:Nat→Addr} {w:World} (h:FtEnv E w):TEnv w:=⟨h.1.2,h.1.1.2,h.1.1.1.2.max⟩
def OpenPost (E:Nat→Addr) (B nb tb tn:Nat) (n:NetB) (r:Er×ShopS) (t:TapeS) (w:World) (e:Ending) (w':World):Prop:=
 ((r.1.code=0∧∃hb sb rv lv rl,e=.returned (.tuple #[.pointer (some ⟨sb,0,none⟩),.nilIface])∧Hid (ProgAt w' B nb hb tb sb rv lv rl n r.2 t tn)∧Hid (OpOk r.2))∨
  (r.1.code≠0∧∃ev,e=.returned (.tuple #[.pointer none,ev])∧Hid (IsErr E w' ev r.1)∧Hid (TapeIs w' B tb t)))∧Hid (Keeps TapeRow B w w')
theorem shopOpen_any {E:Nat→Addr} (B nb tb tn:Nat) (n:NetB) (t:TapeS) (w:World) (hn:NetIs w B nb n tn) (ht:TapeIs w B tb t) (hBw:B≤w.heap.size) (hE:∀W,Below B w W→FtEnv E W):
  Calls Tryz.prog 97 #[.pointer (some ⟨nb,0,none⟩),.pointer (some ⟨tb,0,none⟩)] w (OpenPost E B nb tb tn n (openS t.bytes) (recT t) w):=by
 have HN:=Lib.hid hn;have HE:=Lib.hid hE;have hnw:=hn.lt;have hlen:t.bytes.length≤1048576:=ht.2.1;have C:=Lib.hid (recover_any B tb t.bytes t.off t.cut w ht.1 hlen hBw (fun W hW=>(hE W hW).tape));clear hn hE ht;go_enter Tryz.func97,Tryz.ntmps97;go_wp2_with fail;refine C.out.mono ?_;clear C;rintro e w1 ⟨v,zs,rfl,HV,HZ,hzl,hd1,ho1⟩;have hk1:=ho1.keeps;have HK1:=Lib.hid hk1;have hT1:TapeIs w1 B tb (recT t):=by
  rw [recT_eq];have:=recsL_tape_short t.bytes;exact ⟨hd1,by show (recsL (tapeL t.bytes)).length≤_;omega,by show (-1:Int)≤-1∧(-1:Int)≤_;omega⟩
 have HT1:=Lib.hid hT1;have HN1:=Lib.hid (HN.out.keeps hk1 kt_map (kt_other _ (by decide) (by decide)));have HSZ:Hid (∀z∈zs,z.size≤20000):=fun z hz=>by
  have:=tapeL_small t.bytes (bl z) (by rw [←HZ.out];exact List.mem_map.2 ⟨z,hz,rfl⟩);rwa [bl_length] at this
 have HO:Hid (openS t.bytes=openGo 0 emptyS (zs.map bl)):=by show _=_;rw [HZ.out];rfl
 have hB1:B≤w1.heap.size:=Nat.le_trans hBw hk1.below.size;have hnw1:nb<w1.heap.size:=Nat.lt_of_lt_of_le hnw hk1.below.size;have C:=Lib.hid (shopEmpty_any (some ⟨nb,0,none⟩) (some ⟨tb,0,none⟩) w1);obtain ⟨ao,cap,rfl,r1,r2,H3⟩:=(Row.of_owns (enc:=encStr) (size:=1) (fun _=>rfl) HV.out).parts;have HR:=Lib.hid H3;clear HV hd1 ho1 hk1 hT1 HN H3 HZ;go_wp2_with fail;refine C.out.mono ?_;clear C;rintro e w2 ⟨hb,sb,rfl,hhb,HA,hb2⟩;obtain ⟨Bo,hBo⟩:∃Bo,w1.heap.size=Bo:=⟨_,rfl⟩;rw [hBo] at HA hb2 hhb hnw1 hB1;have HBo:=Lib.hid hBo;clear hBo;have hBo2:Bo≤w2.heap.size:=by have:=hb2.size;have:=HBo.out;omega
 have HE2:Hid (∀W,Below Bo w1 W→FtEnv E W):=fun W hW=>HE.out W (HK1.out.below.trans (hW.mono hB1))
 go_wp2_with fail;go_loopw [32] (fun i wr=>∃(k:Nat) (S:ShopS),k≤zs.length∧i=.int .i64 k∧Hid (openS t.bytes=openGo k S ((zs.map bl).drop k))∧Hid (OpOk S)∧Hid (AgIs wr Bo hb sb (.pointer (some ⟨nb,0,none⟩)) (.pointer (some ⟨tb,0,none⟩)) S)∧Bo≤wr.heap.size∧Hid (Below Bo w1 wr)) (fun i _=>zs.length- (intOf i).toNat)
 case atStart=>exact ⟨0,emptyS,Nat.zero_le _,rfl,HO,OpOk.empty,⟨_,_,_,HA.out⟩,hBo2,hb2⟩
 case round=>
  obtain ⟨k,S,hk,rfl,HG,HOK,HAg,hBr,HB⟩:=hrel;by_cases hlt:k<zs.length
  ·obtain ⟨g,off,rfl,hgl,hcell⟩:=HR.out k hlt;have cl:=hcell k hlt;have hgB:g<Bo:=by rw [←HBo.out];exact hgl
   have cl2:wr.cell? ⟨g,off+k,none⟩=some (.string zs[k]):=by
    rw [HB.out.cell (p:=⟨g,off+k,none⟩) hgB];exact cl
   have hz:zs[k].size≤20000:=HSZ.out _ (List.getElem_mem hlt);have HD:Hid ((zs.map bl).drop k=bl zs[k]::(zs.map bl).drop (k+1)):=drop_bl zs k hlt;have C:=shopAgain_any (E:=E) Bo hb sb (some ⟨nb,0,none⟩) (some ⟨tb,0,none⟩) S zs[k] wr HAg.out HOK.out hz hBr (fun W hW=>HE2.out W (HB.out.trans hW));have hst:=@OpOk.step S (bl zs[k]) HOK.out;have hgs:=@openGo_step k S (bl zs[k]) ((zs.map bl).drop (k+1));have hgb:=@openGo_bad k S (bl zs[k]) ((zs.map bl).drop (k+1));rw [←HD.out,←HG.out] at hgs hgb;obtain ⟨r,hr⟩:∃r,againS S (bl zs[k])=r:=⟨_,rfl⟩;rw [hr] at C hst hgs hgb;obtain ⟨c,S2⟩:=r;unfold AgPost at C;dsimp only at C hst hgs hgb;have HC:=Lib.hid C;have HST:=Lib.hid hst;have HGS:=Lib.hid hgs;have HGB:=Lib.hid hgb;clear C hr hcell cl hst hgs hgb HG HD HAg;generalize zs[k]=z at cl2 HC;go_wp2_with fail;refine HC.out.mono ?_;clear HC cl2;rintro e w3 ⟨⟨ev,er,rfl,HI,hc⟩,HP,hb3⟩;have HB3:=Lib.hid (HB.out.trans hb3);have hBr3:Bo≤w3.heap.size:=Nat.le_trans hBr hb3.size;clear hb3;by_cases hc0:er.code=0
   ·obtain rfl:ev=.nilIface:=HI.out.zero hc0;have hcz:c=0:=by rw [←hc];exact hc0
    have HAg3:=Lib.hid (HP.out hcz);have HOK3:=Lib.hid (HST.out hcz);have HG3:=Lib.hid (HGS.out hcz);clear hc0 hcz hc HI HP;go_wp2_with fail;go_roundw
    case rel=>exact ⟨k+1,S2,by omega,by go_num,HG3,HOK3,HAg3,hBr3,HB3⟩
    case measure=>simp [intOf];omega
   ·have hcz:c≠0:=by rw [←hc];exact hc0
    have HY:=Lib.hid (HGB.out hcz);have C:=Lib.hid (treeBare_any er ev w3 HI.out);obtain ⟨ty,y,rfl⟩:=HI.out.some_inv hc0;rw [hc] at C;obtain ⟨c,rfl⟩:=Nat.exists_eq_succ_of_ne_zero hcz;clear hc hc0 HI HP hcz;go_wp2_with fail;refine C.out.mono ?_;clear C;rintro e w4 ⟨⟨u,rfl,HU⟩,rfl⟩;obtain ⟨rfl,hc13⟩:=IsErr.bare_inv HU.out;have hbz:Below w1.heap.size w1 (w3.alloc (.cells #[.int .i64 k,sentV E c] 74)):=by rw [HBo.out];exact HB3.out.alloc hBr3 _
    clear HU;go_wp2_with fail;go_ret2;rw [HY.out];refine ⟨.inr ⟨Nat.succ_ne_zero _,_,rfl,?_,HT1.out.below hbz⟩,HK1.out.trans (Keeps.of hbz (by rw [HBo.out];exact hB1))⟩;show IsErr _ _ _ _;exact IsErr.fault E _ c hc13 _ _ ((World.cell?_alloc_at (w:=w3) _ _ _ _ rfl).trans rfl) ((World.cell?_alloc_at (w:=w3) _ _ _ _ rfl).trans rfl)
  ·obtain rfl:k=zs.length:=by omega
   have HY:Hid (openS t.bytes=(⟨0,none⟩,S)):=by show _=_;rw [HG.out,drop_end];rfl
   obtain ⟨rv,lv,rl,hA⟩:=HAg.out;have hbz:Below w1.heap.size w1 wr:=by rw [HBo.out];exact HB.out
   have HPR:Hid (ProgAt wr B nb hb tb sb rv lv rl n S (recT t) tn):=hA.prog hB1 (HN1.out.below hbz) (HT1.out.below hbz) (by omega);have HKZ:=Lib.hid (HK1.out.trans (Keeps.of hbz (by rw [HBo.out];exact hB1)));clear hA HG hbz;go_wp2_with fail;go_ret2;rw [HY.out];exact ⟨.inl ⟨rfl,hb,sb,rv,lv,rl,rfl,HPR,HOK⟩,HKZ⟩
end Go.Proofs.YtaabgmbjmfjdjaaGreatDoor
