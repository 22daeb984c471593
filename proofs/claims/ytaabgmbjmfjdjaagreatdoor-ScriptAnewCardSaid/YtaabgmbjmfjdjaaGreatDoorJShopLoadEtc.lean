import Derived.Test.YtaabgmbjmfjdjaaGreatDoorJLockSetsEtc
import Derived.Test.YtaabgmbjmfjdjaaGreatDoorJLockUpEtc
import Derived.Test.YtaabgmbjmfjdjaaGreatDoorJNetPlainEtc
import Derived.Test.YtaabgmbjmfjdjaaGreatDoorJRefTryEtc
import Derived.Test.YtaabgmbjmfjdjaaGreatDoorJStepSrcEtc
import Derived.Test.YtaabgmbjmfjdjaaGreatDoorJShopRecEtc
import Derived.Test.YtaabgmbjmfjdjaaGreatDoorJRefWaysEtc
namespace Go.Proofs.YtaabgmbjmfjdjaaGreatDoor
open Go Go.RowKit
set_option maxHeartbeats 8000000
set_option maxRecDepth 100000
theorem kp_other (T:TypeId) (h1:T≠55) (h2:T≠110) (h3:T≠5) (h4:T≠79) (h5:T≠85) (cs:Array Value) (fz:Nat×Nat):¬PRow (.cells cs T fz):=by
 rintro (h|h|h|h)
 ·exact kn_other T h1 cs fz h
 ·exact kh_other T h2 cs fz h
 ·exact kt_other T h3 h4 cs fz h
 ·exact ks_other T h5 cs fz h
theorem splitLk_bad {l:List WantB} {s:List UInt8} (h:(splitLk l s).1.code≠0):(splitLk l s).2=[]:=by
 unfold splitLk at h⊢;split
 ·rfl
 ·rename_i h1;rw [if_neg h1] at h;split
  ·rfl
  ·rename_i h2;rw [if_neg h2] at h;split
   ·rfl
   ·rename_i h3;rw [if_neg h3] at h;exact absurd rfl h
theorem holdS_most (S:ShopS) (t:TapeS) (l:List FileB):(holdS S t l).2.1.held.most=S.held.most:=by
 unfold holdS;split
 ·rfl
 ·split
  ·rfl
  ·show (putH S.held l).2.2.most=_;rw [putH_most]
theorem loadS_bad {S:ShopS} {t:TapeS} {s:List UInt8} (h:(splitLk S.lock s).1.code≠0):loadS S t s=((splitLk S.lock s).1,S,t):=by unfold loadS;rw [if_pos h]
theorem loadS_from {S:ShopS} {t:TapeS} {s:List UInt8} (h:(splitLk S.lock s).1.code=0):loadS S t s=(⟨(holdsS S t (splitLk S.lock s).2).1,none⟩,(holdsS S t (splitLk S.lock s).2).2):=by unfold loadS;rw [if_neg (by omega)]
def leftS (c:Nat) (S:ShopS) (t:TapeS) (ts:List (List FileB)):Nat×ShopS×TapeS:=if c=0 then holdsS S t ts else (c,S,t)
theorem leftS_bad {c:Nat} (h:c≠0) (S:ShopS) (t:TapeS) (ts us:List (List FileB)):leftS c S t ts=leftS c S t us:=by unfold leftS;rw [if_neg h,if_neg h]
theorem leftS_step (S:ShopS) (t:TapeS) (l:List FileB) (ts:List (List FileB)):leftS 0 S t (l::ts)=leftS (holdS S t l).1 (holdS S t l).2.1 (holdS S t l).2.2 ts:=by
 unfold leftS;rw [if_pos rfl]
 conv=>lhs;unfold holdsS
 by_cases h:(holdS S t l).1=0
 ·rw [if_neg (by omega),if_pos h]
 ·rw [if_pos h,if_neg h]
theorem leftS_nil (c:Nat) (S:ShopS) (t:TapeS):leftS c S t []=(c,S,t):=by
 unfold leftS;split
 ·rename_i h;rw [h];rfl
 ·rfl
theorem shopLoad_any {E:Nat→Addr} (B nb sb tn:Nat) (n:NetB) (S:ShopS) (t:TapeS) (s:ByteArray) (w:World) (h:ProgIs w B nb sb n S t tn) (hl:S.lock.length≤10000) (hS:∀f∈S.lock,SmallW f) (hs:s.size≤1000000) (hm:S.held.most≠0) (hBw:B≤w.heap.size) (hE:ShEnv E B w):
  Calls Tryz.prog 94 #[.pointer (some ⟨sb,0,none⟩),.string s] w (ErPost E B nb sb tn n (loadS S t (bl s)) w):=by
 obtain ⟨hb,tb,rv,lv,rl,hA⟩:=h;have HA:=Lib.hid hA;have HE:=Lib.hid hE;have C:=Lib.hid (lockSplit_any lv S.lock s w hA.lock.arg.1 (by omega) hS hs (hE.env w (Below.refl _ _)).1);obtain ⟨c0,c1,c2,c3,c4⟩:=hA.cells;clear hA hE hS;go_enter Tryz.func94,Tryz.ntmps94;go_wp2_with fail;refine C.out.mono ?_;clear C c0 c1 c2 c3 c4;rintro e w1 ⟨⟨tv,ev,rfl,HI,HT⟩,hb1⟩;have HP1:Hid (ProgIs w1 B nb sb n S t tn):=⟨_,_,_,_,_,HA.out.below hb1⟩;have hbB:=hb1.mono hBw;have hB1:B≤w1.heap.size:=Nat.le_trans hBw hb1.size;have K1:Hid (Keeps PRow B w w1):=Keeps.of hb1 hBw;have HT1:=Lib.hid (HT.out.low hBw);have hbad:=@loadS_bad S t (bl s);have hfrom:=@loadS_from S t (bl s);have hnil:=@splitLk_bad S.lock (bl s);have heach:=splitLk_each S.lock (bl s);have hlen:=splitLk_len S.lock (bl s);obtain ⟨r,hr⟩:∃r,splitLk S.lock (bl s)=r:=⟨_,rfl⟩;rw [hr] at hbad hfrom hnil heach hlen HI HT1;obtain ⟨er,ts⟩:=r;dsimp only at hbad hfrom hnil heach hlen HI HT1;clear hr HT hb1 HA;by_cases hz:er.code=0;rotate_left
 ·obtain rfl:=hnil hz;have HY:=Lib.hid (hbad hz);obtain ⟨ty,y,rfl⟩:=HI.out.some_inv hz;obtain ⟨ta,tc,rfl⟩:=HT1.out.shape;rw [List.length_nil];clear hz hbad hfrom hnil heach hlen;go_wp2_with fail;go_loopw [6,8,20] (fun ev _ i wr=>ev=.iface ty y∧i=.int .i64 0∧wr=w1) (fun _ _ _ _=>0)
  case atStart=>exact ⟨rfl,rfl,rfl⟩
  case round=>
   obtain ⟨rfl,rfl,rfl⟩:=hrel;go_wp2_with fail;go_ret;rw [HY.out];exact ⟨⟨_,rfl,HI⟩,HP1,K1⟩
 ·obtain rfl:ev=.nilIface:=HI.out.zero hz;have HY:=Lib.hid (hfrom hz);have HEA:=Lib.hid heach;obtain ⟨m,hm2⟩:∃m,ts.length=m:=⟨_,rfl⟩;have HM:=Lib.hid hm2;obtain ⟨tso,tc,rfl⟩:=HT1.out.shape;rw [hm2] at HT1 hlen⊢;have HMO:Hid (∀S1:ShopS,S1.held.most=S.held.most→S1.held.most≠0):=fun S1 h1=>by rw [h1];exact hm
  have H0:Hid (leftS 0 S t ts=holdsS S t ts):=by show _=_;unfold leftS;rw [if_pos rfl]
  clear hz hbad hfrom hnil heach hm2 hm HI;go_wp2_with fail;go_loopw [6,8,20] (fun ev _ i wr=>∃(k c:Nat) (S1:ShopS) (t1:TapeS),k≤m∧i=.int .i64 k∧ev=errV E c∧c≤13∧Hid (S1.held.most=S.held.most)∧Hid (ProgIs wr B nb sb n S1 t1 tn)∧Hid (leftS c S1 t1 (ts.drop k)=holdsS S t ts)∧Hid (Keeps PRow B w1 wr)) (fun _ _ i _=>m- (intOf i).toNat)
  case atStart=>exact ⟨0,0,S,t,Nat.zero_le _,rfl,rfl,Nat.zero_le _,rfl,HP1,H0,Keeps.refl _ _ _⟩
  case round=>
   obtain ⟨k,c,S1,t1,hk,rfl,rfl,hc13,HS1,HP,HL,K⟩:=hrel;have hBr:B≤wr.heap.size:=Nat.le_trans hB1 K.out.below.size;by_cases hlt:k<m
   ·have hkt:k<ts.length:=by rw [HM.out];exact hlt
    have HTW:=Lib.hid (HT1.out.keeps K.out (fun cs=>kp_other _ (by decide) (by decide) (by decide) (by decide) (by decide) cs _) (fun cs=>kp_other _ (by decide) (by decide) (by decide) (by decide) (by decide) cs _));obtain ⟨g,tv,rfl,hgl,hgc,hfo⟩:=HTW.out.at hkt;have HFO:=Lib.hid hfo;have HTR:Hid ((treeEr ts[k]).code=0):=HEA.out _ (List.getElem_mem hkt);have HD:Hid (ts.drop k=ts[k]::ts.drop (k+1)):=List.drop_eq_getElem_cons hkt;obtain ⟨l,hl2⟩:∃l,ts[k]=l:=⟨_,rfl⟩;rw [hl2] at HFO HTR HD;obtain ⟨fo,fc,rfl⟩:=HFO.out.shape;clear hfo hl2 HTW hkt
    cases c with
    |zero=>
     rw [show errV E 0=.nilIface from rfl];have C:=shopHold_any (E:=E) B nb sb tn n S1 t1 B (.slice fo l.length fc) l wr HP.out HFO.out HTR.out (HMO.out S1 HS1.out) hBr (HE.out.ext ((hbB.trans K.out.below)));have hst:=leftS_step S1 t1 l (ts.drop (k+1));have hmo:=holdS_most S1 t1 l;obtain ⟨r,hr⟩:∃r,holdS S1 t1 l=r:=⟨_,rfl⟩;rw [hr] at C hst hmo;rw [←HD.out,HL.out] at hst;obtain ⟨c2,S2,t2⟩:=r;unfold CdPost at C;dsimp only at C hst hmo;have HC:=Lib.hid C;have HST:=Lib.hid hst;have HMM:=Lib.hid (hmo.trans HS1.out);clear C hr hst hmo HL;go_wp2_with fail;refine HC.out.mono ?_;clear HC hgc;rintro e w3 ⟨rfl,h13,HP3,HK3⟩;have K3:=Lib.hid (K.out.trans HK3.out);have HL3:Hid (leftS c2 S2 t2 (ts.drop (k+1))=holdsS S t ts):=HST.out.symm;clear HK3 HP K HS1 HST;go_wp2_with fail;go_roundw
     case rel=>exact ⟨k+1,c2,S2,t2,by omega,by go_num,rfl,h13,HMM,HP3,HL3,K3⟩
     case measure=>simp [intOf];omega
    |succ c=>
     rw [show errV E (c+1)=sentV E c from rfl];have HL3:Hid (leftS (c+1) S1 t1 (ts.drop (k+1))=holdsS S t ts):=by show _=_;rw [leftS_bad (Nat.succ_ne_zero _) S1 t1 _ (ts.drop k)];exact HL.out
     clear HL;go_wp2_with fail;go_roundw
     case rel=>exact ⟨k+1,c+1,S1,t1,by omega,by go_num,rfl,hc13,HS1,HP,HL3,K⟩
     case measure=>simp [intOf];omega
   ·obtain rfl:k=m:=by omega
    have HZ:Hid (loadS S t (bl s)=(⟨c,none⟩,S1,t1)):=by
     have h1:=HL.out;rw [List.drop_of_length_le (Nat.le_of_eq HM.out),leftS_nil] at h1;show _=_;rw [HY.out,←h1]
    have K3:=Lib.hid (K1.out.trans K.out);clear HL HY;go_wp2_with fail;go_ret;rw [HZ.out];exact ⟨⟨_,rfl,errV_is hc13⟩,HP,K3⟩
theorem empty_shopped (c:Int) (h: -1≤c∧c≤9223372036854775807):∃recs,Shopped emptyS ⟨[],false,c⟩ recs:=
 ⟨[],emptyS_ok,⟨(fun s hs=>by cases hs),by show (0:Nat)≤_;omega,h,.inl ⟨rfl,rfl⟩⟩⟩
theorem Shopped.right {S:ShopS} {t:TapeS} {recs:List (List UInt8)} (h:Shopped S t recs):(∀p∈S.held.trees,(treeEr p.2).code=0∧p.1=treeSum p.2)∧S.held.trees.length≤40∧(∀w∈S.lock,wantE w=0)∧S.lock.Pairwise wLt∧S.lock.length≤20∧(rulesEr S.rules).code=0:=
 ⟨h.shop.held.right,Nat.le_trans h.shop.held.len h.shop.held.few,h.shop.lock.each,h.shop.lock.strict,h.shop.lock.few,h.shop.rules⟩
theorem ask_want2 {x:WantB} (h:wantE x=0):AskW x:=by
 obtain ⟨hn,hu,hk,_⟩:=wantE_zero h;exact ⟨by have:=want_name h;omega,by have:=link_short hu;rw [bl_length] at this;omega⟩
theorem FetchFrame.prow {nb c B:Nat} {w w':World} (h:FetchFrame nb c B B w w'):Keeps PRow B w w':=by
 obtain ⟨w5,h1,h2⟩:=h;exact h1.toKeeps.p_net.trans h2.toKeeps.p_held
theorem ProgAt.turnFetch {w w':World} {B nb hb tb sb tn tn' c:Nat} {rv lv:Value} {rl:List RuleB} {n n':NetB} {S:ShopS} {t:TapeS} (h:ProgAt w B nb hb tb sb rv lv rl n S t tn) (hf:FetchFrame nb c B B w w') (hc:hb+2≤c) (hn:NetIs w' B nb n' tn'):ProgAt w' B nb hb tb sb rv lv rl n' S t tn':=by
 obtain ⟨w5,h1,h2⟩:=hf;exact {
  hsb:=h.hsb
  shop:=h2.toKeeps.keep sb _ (h1.toKeeps.keep sb _ h.shop (kn_other _ (by decide) _ _)) (kh_other _ (by decide) _ _)
  rules:=(h.rules.keeps h1.toKeeps (kn_other _ (by decide)) (kn_other _ (by decide))).keeps h2.toKeeps (kh_other _ (by decide)) (kh_other _ (by decide))
  ruled:=h.ruled
  lock:=h2.toKeeps.owns (h1.toKeeps.owns h.lock (fun cs=>kn_other _ (by decide) cs _)) (fun cs=>kh_other _ (by decide) cs _)
  held:=(h.held.apartN h1 h.apart).apart h2 (.inr hc)
  tape:=(h.tape.keeps h1.toKeeps (kn_other _ (by decide)) (kn_other _ (by decide))).keeps h2.toKeeps (kh_other _ (by decide)) (kh_other _ (by decide))
  net:=hn
  apart:=h.apart}
def SFetchPost (E:Nat→Addr) (B nb sb tn:Nat) (r:Er×List FileB×List (List UInt8)×ShopS×TapeS×NetB) (w:World) (e:Ending) (w':World):Prop:=
 ∃fv lv ev zs,e=.returned (.tuple #[fv,lv,ev])∧Hid (IsErr E w' ev r.1)∧Hid (FOwn w' B fv r.2.1)∧Hid (TOwn w' B lv zs)∧Hid (zs.map bl=r.2.2.1∧zs.length≤20)∧Hid (ProgIs w' B nb sb r.2.2.2.2.2 r.2.2.2.1 r.2.2.2.2.1 (tn+20))∧Hid (Keeps PRow B w w')
theorem fetchS_none (S:ShopS) (t:TapeS) (n:NetB) (name:ByteArray) (h:findW name S.lock=none):fetchS S t n name=(⟨6,none⟩,[],[],S,t,n):=by unfold fetchS;rw [h]
theorem fetchS_bad (S:ShopS) (t:TapeS) (n:NetB) (name:ByteArray) (k:Nat) (x:WantB) (er:Er) (fs:List FileB) (ls:List (List UInt8)) (h2:HeldB) (n2:NetB) (h:findW name S.lock=some k) (hx:S.lock.getD k zeroW=x) (hf:fetchF S.held n S.rules x=(er,fs,ls,h2,n2)) (hc:er.code≠0):fetchS S t n name=(er,[],ls,S,t,n2):=by
 unfold fetchS;rw [h];dsimp only;rw [hx,hf];rw [if_pos hc]
theorem fetchS_full (S:ShopS) (t:TapeS) (n:NetB) (name:ByteArray) (k:Nat) (x:WantB) (er:Er) (fs:List FileB) (ls:List (List UInt8)) (h2:HeldB) (n2:NetB) (c:Nat) (S2:ShopS) (t2:TapeS) (h:findW name S.lock=some k) (hx:S.lock.getD k zeroW=x) (hf:fetchF S.held n S.rules x=(er,fs,ls,h2,n2)) (hc:er.code=0) (hh:holdS S t fs=(c,S2,t2)) (hc2:c≠0):fetchS S t n name=(⟨c,none⟩,[],ls,S2,t2,n2):=by
 unfold fetchS;rw [h];dsimp only;rw [hx,hf];dsimp only;rw [if_neg (by omega),hh,if_pos hc2]
theorem fetchS_done (S:ShopS) (t:TapeS) (n:NetB) (name:ByteArray) (k:Nat) (x:WantB) (er:Er) (fs:List FileB) (ls:List (List UInt8)) (h2:HeldB) (n2:NetB) (c:Nat) (S2:ShopS) (t2:TapeS) (h:findW name S.lock=some k) (hx:S.lock.getD k zeroW=x) (hf:fetchF S.held n S.rules x=(er,fs,ls,h2,n2)) (hc:er.code=0) (hh:holdS S t fs=(c,S2,t2)) (hc2:c=0):fetchS S t n name=(⟨0,none⟩,fs,ls,S2,t2,n2):=by
 unfold fetchS;rw [h];dsimp only;rw [hx,hf];dsimp only;rw [if_neg (by omega),hh,if_neg (by omega)]
theorem findW_lt:∀(l:List WantB) (p:ByteArray) (k:Nat),findW p l=some k→k<l.length
 | [],_,_,h=>by cases h
 |w::l,p,k,h=>by
  unfold findW at h;split at h
  ·obtain rfl:=Option.some.inj h;simp
  ·cases hf:findW p l with
   |none=>rw [hf] at h;cases h
   |some j=>
    rw [hf] at h;have e:j+1=k:=Option.some.inj h;have:=findW_lt l p j hf;rw [List.length_cons];omega
theorem want_row {w:World} {B g off n c:Nat} {l:List WantB} (h:WOwn w B (.slice (some ⟨g,off,none⟩) n c) l):∃ob,w.heap[g]? =some ob∧∃cs fz,ob=.cells cs 134 fz:=by
 rcases h.2 with ⟨h1,_⟩|⟨g',cap',cur,h1,_,hg,_⟩
 ·cases h1
 ·injection h1 with h2 _ _
  injection h2 with h3
  injection h3 with h4 _ _
  subst h4;exact ⟨_,hg,cur,_,rfl⟩
theorem shopFetch_any {E:Nat→Addr} (B nb sb tn:Nat) (n:NetB) (S:ShopS) (t:TapeS) (name:ByteArray) (w:World) (h:ProgIs w B nb sb n S t tn) (hok:OpOk S) (hhk:HeldOk S.held) (hm:S.held.most≠0) (htn:tn+20<1000000000) (hBw:B≤w.heap.size) (hE:ShEnv E B w):
  Calls Tryz.prog 86 #[.pointer (some ⟨sb,0,none⟩),.string name] w (SFetchPost E B nb sb tn (fetchS S t n name) w):=by
 obtain ⟨hb,tb,rv,lv,rl,hA⟩:=h;obtain ⟨hfew,hsm⟩:=rules_small (l:=rl) (by rw [hA.ruled];exact hok.rules);have HA:=Lib.hid hA;have HE:=Lib.hid hE;have HSM:=Lib.hid hsm;have HHK:=Lib.hid hhk;have HEACH:=Lib.hid hok.lock.each;have C:=lockFind_any lv S.lock name w hA.lock.arg.1 (by have:=hok.lock.few;omega);unfold WantIxPost at C;have HNO:=Lib.hid (fetchS_none S t n name);have HLT:=Lib.hid (findW_lt S.lock name);have HBAD:=Lib.hid (fetchS_bad S t n name);have HFULL:=Lib.hid (fetchS_full S t n name);have HDONE:=Lib.hid (fetchS_done S t n name);obtain ⟨o,ho⟩:∃o,findW name S.lock=o:=⟨_,rfl⟩;rw [ho] at C HNO HLT HBAD HFULL HDONE;have HC:=Lib.hid C;obtain ⟨c0,c1,c2,c3,c4⟩:=hA.cells;clear C ho hA hE hsm hok hhk;go_enter Tryz.func86,Tryz.ntmps86;go_wp2_with fail;refine HC.out.mono ?_;clear HC c0 c1 c2 c3 c4;rintro e w1 ⟨rfl,hb1⟩;have HA1:=Lib.hid (HA.out.below hb1);have hbB:=hb1.mono hBw;have hB1:B≤w1.heap.size:=Nat.le_trans hBw hb1.size;have K1:Hid (Keeps PRow B w w1):=Keeps.of hb1 hBw;clear HA hb1
 cases o with
 |none=>
  have HY:=Lib.hid (HNO.out rfl);rw [show findI none=(-1:Int) from rfl];have e1:w1.cell? ⟨5,0,none⟩=some (sentV E 5):=(HE.out.env w1 hbB).env.err 5 (by decide);clear HNO HBAD HFULL HDONE HLT;go_wp2_with fail;go_quiet (fail);go_wp2_with fail;go_ret3;rw [HY.out];exact ⟨_,_,_,[],rfl,IsErr.sentW (by decide),FOwn.nil _ _,TOwn.nil _ _,⟨rfl,Nat.zero_le _⟩,ProgIs.later ⟨_,_,_,_,_,HA1.out.below (below_drewN _ _ _)⟩ (Nat.le_add_right _ _),K1.out.trans (Keeps.of (below_drewN _ _ _) hB1)⟩
 |some k=>
  rw [show findI (some k)=(k:Int) from rfl];have hkl:=HLT.out k rfl;obtain ⟨x,hx⟩:∃x,S.lock.getD k zeroW=x:=⟨_,rfl⟩;have hx2:S.lock[k]=x:=by rw [←hx];rw [List.getD_eq_getElem?_getD,List.getElem?_eq_getElem hkl];rfl
  have hask:AskW x:=by rw [←hx2];exact ask_want2 (HEACH.out _ (List.getElem_mem hkl))
  obtain ⟨lva,lvc,rfl⟩:=WOwn.shape HA1.out.lock;obtain ⟨g,off,rfl,hcell⟩:=HA1.out.lock.arg.1.at hkl;rw [hx2] at hcell;have KG:Hid (∀W W',Below w1.heap.size w1 W→Keeps PRow B W W'→W'.heap[g]? =w1.heap[g]?):=fun W W' hW hk=>by
   obtain ⟨ob,hob,hnp⟩:=want_row HA1.out.lock;exact (hk.keep g ob ((hW.block g (Array.getElem?_eq_some_iff.1 hob).1).trans hob) (fun h=>by
    obtain ⟨cs,fz,rfl⟩:=hnp;exact kp_other _ (by decide) (by decide) (by decide) (by decide) (by decide) cs fz h)).trans hob.symm
  have HX:=Lib.hid hx;have hlen:k<S.lock.length:=hkl;have K0:Hid (∀W,Below w1.heap.size w1 W→W.cell? ⟨sb,0,none⟩=some (.pointer (some ⟨nb,0,none⟩))∧W.cell? ⟨sb,1,none⟩=some rv∧W.cell? ⟨sb,2,none⟩=some (.slice (some ⟨g,off,none⟩) S.lock.length lvc)∧W.cell? ⟨sb,3,none⟩=some (.pointer (some ⟨hb,0,none⟩))∧W.cell? ⟨g,off+k*5,none⟩=some (.string x.name)∧W.cell? ⟨g,off+k*5+1,none⟩=some (.string x.url)∧W.cell? ⟨g,off+k*5+2,none⟩=some (.string x.kind)∧W.cell? ⟨g,off+k*5+3,none⟩=some (.int .i64 x.strip)∧W.cell? ⟨g,off+k*5+4,none⟩=some (.int .i64 x.sum)):=fun W hW=>by
   obtain ⟨c0,c1,c2,c3,c4⟩:=(HA1.out.below hW).cells;exact ⟨c0,c1,c2,c3,hcell W hW⟩
  have hd1:Below w1.heap.size w1 w1.drew:=below_drewN _ _ 1;have CC:Hid (∀W,Below w1.heap.size w1 W→Calls Tryz.prog 123 #[.pointer (some ⟨hb,0,none⟩)] W fun e w'=>(∃c,e=.returned (.pointer (some ⟨c,0,none⟩))∧Hid (HeldIs w' B c S.held)∧hb+2≤c)∧Below w1.heap.size w1 w'):=fun W hW=>by
   refine (heldCopy_any B hb S.held W (HA1.out.below hW).held (Nat.le_trans hB1 hW.size)).mono ?_;rintro e w' ⟨⟨c,rfl,hc,hle⟩,hb'⟩;have:=HA1.out.held.lt;have:=hW.size;exact ⟨⟨c,rfl,hc,by omega⟩,hW.trans (hb'.mono hW.size)⟩
  have CF:∀(W:World) (c:Nat),Below w1.heap.size w1 W→HeldIs W B c S.held→hb+2≤c→Calls Tryz.prog 122 #[.pointer (some ⟨c,0,none⟩),.pointer (some ⟨nb,0,none⟩),rv,.agg #[.string x.name,.string x.url,.string x.kind,.int .i64 x.strip,.int .i64 x.sum]] W (FetchPost E B nb B c tn (fetchF S.held n S.rules x) W):=fun W c hW hc hle=>by
   have hWB:=hbB.trans (hW.mono hB1);have:=fetch_any (E:=E) B nb B c tn n S.held rv rl x W (HA1.out.below hW).net hc (by have:=HA1.out.apart;omega) (Nat.le_refl _) htn (by omega) HSM.out hask (HA1.out.below hW).rules.row (Nat.le_trans hB1 hW.size) (fun W' hW'=>HE.out.env W' (hWB.trans hW')) HE.out.low;rwa [HA1.out.ruled] at this
  have hright:=@fetchF_right S.held n S.rules x HHK.out;obtain ⟨r,hr⟩:∃r,fetchF S.held n S.rules x=r:=⟨_,rfl⟩;rw [hr] at CF hright;obtain ⟨er,fs,ls,h2,n2⟩:=r;have HBAD2:=Lib.hid (fun (h0:er.code≠0)=>HBAD.out k x er fs ls h2 n2 rfl HX.out hr h0);have HFULL2:=Lib.hid (fun (h0:er.code=0) (c:Nat) (S2:ShopS) (t2:TapeS) (hh:holdS S t fs=(c,S2,t2)) (hc:c≠0)=>HFULL.out k x er fs ls h2 n2 c S2 t2 rfl HX.out hr h0 hh hc);have HDONE2:=Lib.hid (fun (h0:er.code=0) (c:Nat) (S2:ShopS) (t2:TapeS) (hh:holdS S t fs=(c,S2,t2)) (hc:c=0)=>HDONE.out k x er fs ls h2 n2 c S2 t2 rfl HX.out hr h0 hh hc);unfold FetchPost at CF;dsimp only at CF hright;have HCF:=Lib.hid CF;have HRT:=Lib.hid hright;obtain ⟨c0,c1,c2,c3,b0,b1,b2,b3,b4⟩:=K0.out w1 (Below.refl _ _);clear CF hr hright hx hx2 hask hcell HNO HBAD HFULL HDONE HLT HEACH;go_wp2_with fail;go_region_held3 (fun W:World=>W.cell? ⟨sb,0,none⟩=some (.pointer (some ⟨nb,0,none⟩))∧W.cell? ⟨sb,1,none⟩=some rv∧W.cell? ⟨sb,2,none⟩=some (.slice (some ⟨g,off,none⟩) S.lock.length lvc)∧W.cell? ⟨sb,3,none⟩=some (.pointer (some ⟨hb,0,none⟩))∧W.cell? ⟨g,off+k*5,none⟩=some (.string x.name)∧W.cell? ⟨g,off+k*5+1,none⟩=some (.string x.url)∧W.cell? ⟨g,off+k*5+2,none⟩=some (.string x.kind)∧W.cell? ⟨g,off+k*5+3,none⟩=some (.int .i64 x.strip)∧W.cell? ⟨g,off+k*5+4,none⟩=some (.int .i64 x.sum)) (first|exact ⟨c0,c1,c2,c3,b0,b1,b2,b3,b4⟩|exact K0.out _ hd1|exact K0.out _ hb2|exact d3)
   (first
    |(go_at_call 122;refine (HCF.out _ _ hb2 HCP.out hcc).mono ?_;rintro e w3 ⟨fv,lv3,ev,zs,rfl,HI3,HF3,HL3,HZ3,HH3,HN3,HFR⟩;have hq3:=KG.out _ _ hb2 HFR.out.prow;have cA:=((HA1.out.below hb2).turnFetch HFR.out hcc HN3.out).cells;have d3:=And.intro cA.1 (And.intro cA.2.1 (And.intro cA.2.2.1 (And.intro cA.2.2.2.1 (And.intro ((World.cell?_of_block (w:=w1) (a:=⟨g,off+k*5,none⟩) hq3).trans b0) (And.intro ((World.cell?_of_block (w:=w1) (a:=⟨g,off+k*5+1,none⟩) hq3).trans b1) (And.intro ((World.cell?_of_block (w:=w1) (a:=⟨g,off+k*5+2,none⟩) hq3).trans b2) (And.intro ((World.cell?_of_block (w:=w1) (a:=⟨g,off+k*5+3,none⟩) hq3).trans b3) ((World.cell?_of_block (w:=w1) (a:=⟨g,off+k*5+4,none⟩) hq3).trans b4)))))))))
    |(go_at_call 123;refine (CC.out _ hd1).mono ?_;rintro e w2 ⟨⟨c,rfl,HCP,hcc⟩,hb2⟩)
    |fail)
  all_goals
   have HA3:=Lib.hid ((HA1.out.below hb2).turnFetch HFR.out hcc HN3.out);have K3:=Lib.hid ((K1.out.trans (Keeps.of hb2 hB1)).trans HFR.out.prow);have hB3:B≤w3.heap.size:=Nat.le_trans hB1 (Nat.le_trans hb2.size HFR.out.prow.below.size);have hbB3:=(hbB.trans (hb2.mono hB1)).trans HFR.out.prow.below;have HF4:Hid (FOwn w3 B fv fs):=FOwn.low HF3.out (Nat.le_trans hB1 hb2.size);have HL4:Hid (TOwn w3 B lv3 zs):=TOwn.low HL3.out (Nat.le_trans hB1 hb2.size);clear HF3 HL3 HH3 HN3 HFR HCP hb2 d3 hq3 cA KG CC HCF K0 hd1 c0 c1 c2 c3 b0 b1 b2 b3 b4 HA1 K1;obtain ⟨fa,fc,rfl⟩:=row_shape HF4.out;obtain ⟨la,lc,rfl⟩:=row_shape HL4.out;by_cases hz:er.code=0
   ·obtain rfl:ev=.nilIface:=HI3.out.zero hz;have C:=shopHold_any (E:=E) B nb sb (tn+20) n2 S t B (.slice fa fs.length fc) fs w3 ⟨_,_,_,_,_,HA3.out⟩ HF4.out (HRT.out hz) hm hB3 (HE.out.ext hbB3);obtain ⟨r,hr⟩:∃r,holdS S t fs=r:=⟨_,rfl⟩;rw [hr] at C;obtain ⟨c4,S4,t4⟩:=r;have HF5:=Lib.hid (HFULL2.out hz c4 S4 t4 hr);have HD5:=Lib.hid (HDONE2.out hz c4 S4 t4 hr);unfold CdPost at C;dsimp only at C;have HC:=Lib.hid C;clear C hr hz HI3 HBAD2 HFULL2 HDONE2;go_wp2_with fail;refine HC.out.mono ?_;clear HC;rintro e w4 ⟨rfl,h13,HP4,HK4⟩;have K4:=Lib.hid (K3.out.trans HK4.out);have HF6:Hid (FOwn w4 B (.slice fa fs.length fc) fs):=HK4.out.owns HF4.out (fun cs=>kp_other _ (by decide) (by decide) (by decide) (by decide) (by decide) cs _);have HL6:Hid (TOwn w4 B (.slice la zs.length lc) zs):=HK4.out.owns HL4.out (fun cs=>kp_other _ (by decide) (by decide) (by decide) (by decide) (by decide) cs _);clear HK4 HF4 HL4 HA3
    cases c4 with
    |zero=>
     have HY:=Lib.hid (HD5.out rfl);rw [show errV E 0=.nilIface from rfl];clear HF5 HD5;go_wp2_with fail;go_ret3;rw [HY.out];exact ⟨_,_,_,zs,rfl,.inl ⟨rfl,rfl⟩,HF6,HL6,HZ3,HP4,K4⟩
    |succ c4=>
     have HY:=Lib.hid (HF5.out (Nat.succ_ne_zero _));rw [show errV E (c4+1)=sentV E c4 from rfl];clear HF5 HD5;go_wp2_with fail;go_ret3;rw [HY.out];exact ⟨_,_,_,zs,rfl,errV_is h13,FOwn.nil _ _,HL6,HZ3,HP4,K4⟩
   ·have HY:=Lib.hid (HBAD2.out hz);obtain ⟨ty,y,rfl⟩:=HI3.out.some_inv hz;clear hz HBAD2 HFULL2 HDONE2;go_wp2_with fail;go_ret3;rw [HY.out];exact ⟨_,_,_,zs,rfl,HI3,FOwn.nil _ _,HL4,HZ3,⟨_,_,_,_,_,HA3.out⟩,K3⟩
def RulesFull (S:ShopS):Prop:=∀r∈S.rules,r.2≠[]
theorem RulesFull.of {S T:ShopS} (h:RulesFull S) (e:T.rules=S.rules):RulesFull T:=by unfold RulesFull;rw [e];exact h
theorem wantS_rules (S:ShopS) (t:TapeS) (x:WantB):(wantS S t x).2.1.rules=S.rules:=by unfold wantS;split;rfl;split<;>rfl
theorem unwantS_rules (S:ShopS) (t:TapeS) (x:ByteArray):(unwantS S t x).2.1.rules=S.rules:=by unfold unwantS;split;rfl;split<;>rfl
theorem dropS_rules (S:ShopS) (t:TapeS) (x:Int):(dropS S t x).2.1.rules=S.rules:=by unfold dropS;split;rfl;split<;>rfl
theorem holdS_rules (S:ShopS) (t:TapeS) (x:List FileB):(holdS S t x).2.1.rules=S.rules:=by unfold holdS;split;rfl;split<;>rfl
theorem holdsS_rules:∀(ls:List (List FileB)) (S:ShopS) (t:TapeS),(holdsS S t ls).2.1.rules=S.rules
 | [],_,_=>rfl
 |l::ls,S,t=>by
  unfold holdsS;split
  ·exact holdS_rules _ _ _
  ·rw [holdsS_rules ls,holdS_rules]
theorem loadS_rules (S:ShopS) (t:TapeS) (s:List UInt8):(loadS S t s).2.1.rules=S.rules:=by unfold loadS;split;rfl;exact holdsS_rules _ _ _
theorem fetchS_rules (S:ShopS) (t:TapeS) (n:NetB) (a:ByteArray):(fetchS S t n a).2.2.2.1.rules=S.rules:=by
 unfold fetchS;split
 ·rfl
 ·split
  ·rfl
  ·split<;>exact holdS_rules _ _ _
def PlRow (o:Obj):Prop:=∃cs fz,o=.cells cs 43 fz
def ScRow (o:Obj):Prop:=PRow o∨PlRow o
def KeptIs (w:World) (v:Value):Option (List UInt8)→Prop
 |none=>v=.pointer none
 |some s=>∃g t,v=.pointer (some ⟨g,0,none⟩)∧w.heap[g]? =some (.cells #[.string t] 9 (0,0))∧bl t=s∧t.size≤1000000
theorem KeptIs.keeps {K:Obj→Prop} {w w':World} {B:Nat} {v:Value} {o:Option (List UInt8)} (h:KeptIs w v o) (hk:Keeps K B w w') (hf:∀cs fz,¬K (.cells cs 9 fz)):KeptIs w' v o:=by
 cases o with
 |none=>exact h
 |some s=>obtain ⟨g,t,e,h1,h2⟩:=h;exact ⟨g,t,e,hk.keep g _ h1 (hf _ _),h2⟩
structure Plays (E:Nat→Addr) (w:World) (B nb sb pb tn:Nat) (kv:Value) (P:PlayS):Prop where
 hpb:B≤pb
 box:w.heap[pb]? =some (.cells #[.pointer (some ⟨sb,0,none⟩),.pointer (some ⟨nb,0,none⟩),kv] 43 (0,0))
 kept:KeptIs w kv P.kept
 prog:ProgIs w B nb sb P.net P.shop P.tape tn
 has:∃recs,Shopped P.shop P.tape recs
 full:RulesFull P.shop
 env:ShEnv E B w
 size:B≤w.heap.size
def PlNew (E:Nat→Addr) (w:World) (B pb tn:Nat) (kv0:Value) (n0:Nat) (P:PlayS):Prop:=∃nb sb kv,Plays E w B nb sb pb tn kv P∧(kv=kv0∨∃g,kv=.pointer (some ⟨g,0,none⟩)∧n0≤g)
def CmdPost (E:Nat→Addr) (B pb tn:Nat) (kv:Value) (r:Nat×List UInt8×PlayS) (w:World) (e:Ending) (w':World):Prop:=
 (∃(t:ByteArray) (ev:Value) (er:Er),e=.returned (.tuple #[.string t,ev])∧Hid (IsErr E w' ev er∧er.code=r.1∧(r.1=0→bl t=r.2.1)))∧Hid (PlNew E w' B pb (tn+20) kv w.heap.size r.2.2)∧Hid (Keeps ScRow B w w')
theorem post_hide {E:Nat→Addr} {B pb tn f:Nat} {kv:Value} {xs:Array Value} {R:Nat×List UInt8×PlayS} {w:World} (h:∀R0,Hid (R=R0)→Calls Tryz.prog f xs w (CmdPost E B pb tn kv R0 w)):Calls Tryz.prog f xs w (CmdPost E B pb tn kv R w):=h R rfl
section
variable {E:Nat→Addr} {w w':World} {B nb sb pb tn:Nat} {kv:Value} {P:PlayS}
theorem Plays.cells (h:Plays E w B nb sb pb tn kv P):w.cell? ⟨pb,0,none⟩=some (.pointer (some ⟨sb,0,none⟩))∧w.cell? ⟨pb,1,none⟩=some (.pointer (some ⟨nb,0,none⟩))∧w.cell? ⟨pb,2,none⟩=some kv:=
 ⟨by rw [Lib.cell_of_heap h.box];rfl,by rw [Lib.cell_of_heap h.box];rfl,by rw [Lib.cell_of_heap h.box];rfl⟩
theorem Plays.shop {n':NetB} {S':ShopS} {t':TapeS} {tn':Nat} (h:Plays E w B nb sb pb tn kv P) (hk:Keeps PRow B w w') (hp:ProgIs w' B nb sb n' S' t' tn') (hs:∃recs,Shopped S' t' recs) (hfl:RulesFull S') (ht:tn'≤tn+20):Plays E w' B nb sb pb (tn+20) kv ⟨S',t',n',P.kept⟩ where
 hpb:=h.hpb
 box:=hk.keep pb _ h.box (kp_other _ (by decide) (by decide) (by decide) (by decide) (by decide) _ _)
 kept:=h.kept.keeps hk (kp_other _ (by decide) (by decide) (by decide) (by decide) (by decide))
 prog:=hp.later ht
 has:=hs
 full:=hfl
 env:=h.env.ext hk.below
 size:=Nat.le_trans h.size hk.below.size
theorem Plays.below (h:Plays E w B nb sb pb tn kv P) (hb:Below w.heap.size w w'):Plays E w' B nb sb pb tn kv P where
 hpb:=h.hpb
 box:=(hb.block pb (Array.getElem?_eq_some_iff.1 h.box).1).trans h.box
 kept:=h.kept.keeps (K:=fun _=>False) (Keeps.of hb h.size) (fun _ _ h=>h)
 prog:=h.prog.below hb
 has:=h.has
 full:=h.full
 env:=h.env.ext (hb.mono h.size)
 size:=Nat.le_trans h.size hb.size
theorem Plays.later {tn':Nat} (h:Plays E w B nb sb pb tn kv P) (ht:tn≤tn'):Plays E w B nb sb pb tn' kv P:={h with prog:=h.prog.later ht}
theorem Plays.ft (h:Plays E w B nb sb pb tn kv P):FtEnv E w:=h.env.env w (Below.refl _ _)
theorem Plays.op (h:Plays E w B nb sb pb tn kv P):OpOk P.shop:=by obtain ⟨recs,hs⟩:=h.has;exact ⟨hs.shop.rules,hs.shop.lock⟩
theorem Plays.held (h:Plays E w B nb sb pb tn kv P):HeldOk P.shop.held:=by obtain ⟨recs,hs⟩:=h.has;exact hs.shop.held
theorem Plays.most (h:Plays E w B nb sb pb tn kv P):P.shop.held.most≠0:=by obtain ⟨recs,hs⟩:=h.has;rw [hs.shop.most];simp
theorem Plays.few (h:Plays E w B nb sb pb tn kv P):P.shop.lock.length≤10000:=by have:=h.op.lock.few;omega
theorem CmdPost.bad {ev:Value} {er:Er} {x:List UInt8} (h:Plays E w B nb sb pb tn kv P) (hb:Below w.heap.size w w') (hI:IsErr E w' ev er) (h0:er.code≠0) (t:ByteArray):CmdPost E B pb tn kv (er.code,x,P) w (.returned (.tuple #[.string t,ev])) w':=
 ⟨⟨t,ev,er,rfl,hI,rfl,fun e=>absurd e h0⟩,⟨nb,sb,kv,(h.below hb).later (Nat.le_add_right _ _),.inl rfl⟩,Keeps.of hb h.size⟩
theorem CmdPost.told {x:List UInt8} {t:ByteArray} (h:Plays E w B nb sb pb tn kv P) (hb:Below w.heap.size w w') (ht:bl t=x):CmdPost E B pb tn kv (0,x,P) w (.returned (.tuple #[.string t,.nilIface])) w':=
 ⟨⟨t,.nilIface,⟨0,none⟩,rfl,.inl ⟨rfl,rfl⟩,rfl,fun _=>ht⟩,⟨nb,sb,kv,(h.below hb).later (Nat.le_add_right _ _),.inl rfl⟩,Keeps.of hb h.size⟩
theorem Keeps.sc_prog (h:Keeps PRow B w w'):Keeps ScRow B w w':=h.wide fun _ h=>.inl h
theorem CmdPost.turn {n':NetB} {S':ShopS} {t':TapeS} {tn' c:Nat} {ev:Value} {er:Er} (h:Plays E w B nb sb pb tn kv P) (hk:Keeps PRow B w w') (hp:ProgIs w' B nb sb n' S' t' tn') (hs:∃recs,Shopped S' t' recs) (hfl:RulesFull S') (ht:tn'≤tn+20) (hI:IsErr E w' ev er) (hc:er.code=c):CmdPost E B pb tn kv (c,okW,⟨S',t',n',P.kept⟩) w (.returned (.tuple #[.string ⟨#[111,107]⟩,ev])) w':=
 ⟨⟨_,ev,er,rfl,hI,hc,fun _=>rfl⟩,⟨nb,sb,kv,h.shop hk hp hs hfl ht,.inl rfl⟩,hk.sc_prog⟩
theorem CmdPost.from {w0:World} {e:Ending} {r:Nat×List UInt8×PlayS} (h:CmdPost E B pb tn kv r w e w') (hB:B≤w0.heap.size) (hb:Below w0.heap.size w0 w):CmdPost E B pb tn kv r w0 e w':=by
 obtain ⟨h1,⟨nb,sb,k,hp,ho⟩,hk⟩:=h;refine ⟨h1,⟨nb,sb,k,hp,?_⟩,(Keeps.of hb hB).trans hk⟩;rcases ho with ho|⟨g,e,hg⟩
 ·exact .inl ho
 ·exact .inr ⟨g,e,Nat.le_trans hb.size hg⟩
theorem CmdPost.net {e:Value} {r:Nat×NetB} (h:Plays E w B nb sb pb tn kv P) (hb:Below w.heap.size w w') {w2:World} (hn:NetIs w2 B nb r.2 (tn+1)) (hk:KeepsU 4 nb NetRow B w' w2) (hr:r.1≤13) (he:e=errV E r.1):CmdPost E B pb tn kv (r.1,okW,{P with net:=r.2}) w (.returned (.tuple #[.string ⟨#[111,107]⟩,e])) w2:=by
 have h2:=h.below hb;obtain ⟨hb1,tb,rv,lv,rl,hp⟩:=h2.prog;have h3:=CmdPost.turn (n':=r.2) (ev:=e) (er:=⟨r.1,none⟩) h2 hk.toKeeps.p_net ⟨hb1,tb,rv,lv,rl,hp.turnNet hk hn⟩ h.has h.full (by omega) (by rw [he];exact errV_is hr) rfl;exact h3.from h.size hb
end
structure Reads (W:World) (pb sb nb:Nat) (kv:Value) (g off:Nat) (zs:List ByteArray):Prop where
 p0:W.cell? ⟨pb,0,none⟩=some (.pointer (some ⟨sb,0,none⟩))
 p1:W.cell? ⟨pb,1,none⟩=some (.pointer (some ⟨nb,0,none⟩))
 p2:W.cell? ⟨pb,2,none⟩=some kv
 ws:∀k,(hk:k<zs.length)→W.cell? ⟨g,off+k,none⟩=some (.string zs[k])
theorem Plays.words {E:Nat→Addr} {w:World} {B nb sb pb tn:Nat} {kv v:Value} {P:PlayS} {z:ByteArray} {zs:List ByteArray} (h:Plays E w B nb sb pb tn kv P) (hv:SPart w B v (z::zs)):
  ∃g off cap,v=.slice (some ⟨g,off,none⟩) (zs.length+1) cap∧zs.length+1≤cap∧cap≤maxLen∧∀W,Keeps PRow B w W→Reads W pb sb nb kv g off (z::zs):=by
 rcases hv with ⟨e,_⟩|⟨g,off,cap,cur,rfl,_,h2,h3,h4,h5⟩
 ·cases e
 ·refine ⟨g,off,cap,rfl,h3,h4,fun W hW=>?_⟩;have hb:=hW.keep pb _ h.box (kp_other _ (by decide) (by decide) (by decide) (by decide) (by decide) _ _);have hg:=hW.keep g _ h2 (kp_other _ (by decide) (by decide) (by decide) (by decide) (by decide) _ _);exact ⟨by rw [Lib.cell_of_heap hb];rfl,by rw [Lib.cell_of_heap hb];rfl,by rw [Lib.cell_of_heap hb];rfl,fun k hk=>by rw [Lib.cell_of_heap hg];exact h5 k hk⟩
theorem Plays.fresh {E:Nat→Addr} {w W:World} {B nb sb pb tn:Nat} {kv:Value} {P:PlayS} (h:Plays E w B nb sb pb tn kv P) (hb:Below w.heap.size w W):Keeps PRow B w W:=Keeps.of hb h.size
theorem baW_bl (z:ByteArray):baW (bl z)=z:=bytes_bl z
theorem scPut_le (n:NetB) (u s:ByteArray):(putN n u s).1≤13:=by
 unfold putN
 repeat' split
 all_goals first|exact linkE_le _|exact Nat.le_of_ble_eq_true rfl
theorem scHost_le (n:NetB) (u:ByteArray) (on:Bool):(hostN n u on).1≤13:=by unfold hostN;split<;>exact Nat.le_of_ble_eq_true rfl
theorem scCut_le (n:NetB) (u:ByteArray) (k:Int):(cutN n u k).1≤13:=by
 unfold cutN
 repeat' split
 all_goals first|exact linkE_le _|exact Nat.le_of_ble_eq_true rfl
end Go.Proofs.YtaabgmbjmfjdjaaGreatDoor
