import Derived.Test.YtaabgmbjmfjdjaaGreatDoorJTreeDropsEtc
import Derived.Test.YtaabgmbjmfjdjaaGreatDoorJWantsUp
import Derived.Test.YtaabgmbjmfjdjaaGreatDoorJLockPlainsEtc
import Derived.BigQuiet
import Derived.Test.YtaabgmbjmfjdjaaGreatDoorJRefTreeEtc
import Derived.Test.YtaabgmbjmfjdjaaGreatDoorJTreeLoops
import Derived.Deep.RegionWith
import Derived.Test.YtaabgmbjmfjdjaaGreatDoorJPackReads
import Derived.Test.YtaabgmbjmfjdjaaGreatDoorJPackedUpEtc
namespace Go.Proofs.YtaabgmbjmfjdjaaGreatDoor
open Go Go.RowKit Go.Maps
set_option maxHeartbeats 4000000
set_option maxRecDepth 100000
def SmallW (x:WantB):Prop:=x.name.size≤30000∧x.url.size≤100000∧x.kind.size≤30000
theorem IsErr.nil0 {E:Nat→Addr} {w:World} {v:Value} {er:Er} (h:IsErr E w v er) (h0:er.code=0):v=.nilIface:=
 IsErr.nil_inv (a:=er.at?) (by rw [show er=⟨er.code,er.at?⟩ from rfl,h0] at h;exact h)
def LockPost (E:Nat→Addr) (er:Er) (w:World) (e:Ending) (w':World):Prop:=
 (∃ev,e=.returned ev∧Hid (IsErr E w' ev er))∧Below w.heap.size w w'
theorem leq_names (a b:ByteArray):leqB (bl a) (bl b)=(Op.bytesLess a.toList b.toList||a.toList==b.toList):=by
 unfold leqB;rw [toList_bl,toList_bl]
theorem lockCheck_any {E:Nat→Addr} (v:Value) (l:List WantB) (w:World) (hv:WRow w v l) (hl:l.length≤100000) (hS:∀f∈l,SmallW f) (hE:FEnv E w):
  Calls Tryz.prog 154 #[v] w (LockPost E (lockEr l) w):=by
 have HV:=Lib.hid hv;obtain ⟨ao,cap,rfl⟩:=hv.len;have HSM:=Lib.hid hS;have HE:=Lib.hid hE;clear hS hE hv;go_enter Tryz.func154,Tryz.ntmps154;by_cases h20:l.length≤20
 ·go_wp2_with fail;go_loopw [12] (fun i wr=>∃k:Nat,k≤l.length∧i=.int .i64 k∧Hid (lockGo none 0 l=lockGo (prevW l k) k (l.drop k))∧Below w.heap.size w wr) (fun i _=>l.length- (intOf i).toNat)
  case atStart=>exact ⟨0,Nat.zero_le _,rfl,rfl,Below.refl _ _⟩
  case round=>
   obtain ⟨k,hk,rfl,HF,hb⟩:=hrel;by_cases hlt:k<l.length
   ·obtain ⟨b,off,rfl,hcell⟩:=HV.out.at hlt;obtain ⟨q0,q1,q2,q3,q4⟩:=hcell wr hb;have HAT:=Lib.hid (fun c=>lockEr_at (c:=c) h20 hlt HF.out);have HNX:=Lib.hid (lockGo_next hlt HF.out);have HW:=Lib.hid (fun c=>lockE_want (c:=c) hlt);have HFR:=Lib.hid (fun h0=>lockE_from hlt h0);have HFI:Hid (k=0→wantE l[k]=0→lockE (prevW l k) l[k]=0):=fun e h=>by subst e;exact lockE_first hlt h
    have HPV:Hid (∀h0:0<k,∀W,Below w.heap.size w W→W.cell? ⟨b,off+(k-1)*5,none⟩=some (.string (l[k-1]'(by omega)).name)):=fun h0 W hW=>by
     obtain ⟨b',off',e,h⟩:=HV.out.at (show k-1<l.length by omega);injection e with e
     injection e with e1 e2
     subst e1 e2;exact (h W hW).1
    have sz:=HSM.out l[k] (List.getElem_mem hlt);clear hcell;obtain ⟨f,hf⟩:∃f,l[k]=f:=⟨_,rfl⟩;rw [hf] at q0 q1 q2 q3 q4 sz HAT HNX HW HFR HFI;clear hf;obtain ⟨pf,hpf⟩:∃pf,wr.heap.size=pf:=⟨_,rfl⟩;obtain ⟨wa,hwa⟩:∃wa,wr.alloc (.cells #[.string f.name,.string f.url,.string f.kind,.int .i64 f.strip,.int .i64 f.sum] 134)=wa:=⟨_,rfl⟩;have hal:Below wr.heap.size wr wa:=by rw [←hwa];exact (Below.refl _ _).alloc (Nat.le_refl _) _
    have BX:=Lib.hid (show WBox wa pf f by rw [←hwa,←hpf];exact WBox.new wr f);have Ba:=Lib.hid (hb.trans (hal.mono hb.size));have HPF:=Lib.hid hpf;have HWA:=Lib.hid hwa;have C:=Lib.hid (wantCheck_any f wa (by have:=sz.1;omega) (by have:=sz.2.1;omega) (HE.out.ext Ba.out));clear hal hpf hwa hb;go_upto_region 6 with fail
    rw [HWA.out,HPF.out];clear q0 q1 q2 q3 q4;obtain ⟨c0,c1,c2,c3,c4⟩:=BX.out.cells;go_wp2_with fail;refine C.out.mono ?_;clear C;rintro e w1 ⟨rfl,hb1⟩;have B1:=Lib.hid (Ba.out.trans (hb1.mono Ba.out.size));have BX1:=Lib.hid (BX.out.ext hb1);clear hb1 c0 c1 c2 c3 c4 BX;obtain ⟨c0,_,_,_,_⟩:=BX1.out.cells
    cases hw:wantE f with
    |succ c=>
     have hle:c<13:=by have:=wantE_le f;omega
     have HY:=Lib.hid (HAT.out c (HW.out c hw));rw [show errV E (c+1)=sentV E c from rfl];clear HAT HNX HW HFR HFI hw HF;go_wp2_with fail;go_quiet (fail);obtain ⟨wq,hwq⟩:∃wq,w1.drewN nq=wq:=⟨_,rfl⟩;have Bq:Hid (Below w.heap.size w wq):=by show Below _ _ _;rw [←hwq];exact B1.out.trans ((below_drewN _ w1 nq).mono B1.out.size)
     rw [hwq];clear hwq c0 B1;go_wp2_with fail;go_ret;refine ⟨⟨_,rfl,?_⟩,Bq.out.alloc Bq.out.size _⟩;show IsErr _ _ _ _;rw [HY.out];exact IsErr.fault E _ (c) (by omega) _ _ (by rw [World.cell?_alloc_at _ _ _ _ rfl];rfl) (by rw [World.cell?_alloc_at _ _ _ _ rfl];rfl)
    |zero=>
     rw [show errV E 0=.nilIface from rfl];by_cases hk0:k=0
     ·have HF2:Hid (lockGo none 0 l=lockGo (prevW l (k+1)) (k+1) (l.drop (k+1))):=HNX.out (HFI.out hk0 hw);have hd0:decide (0<k)=false:=decide_eq_false (by omega);have hkz:k≤0:=by omega
      clear HAT HNX HW HFR HFI hw HF hk0 HPV;go_wp2_with fail;go_quiet (fail);go_wp2_with fail;go_roundw
      case rel=>exact ⟨k+1,by omega,by go_num,HF2,B1.out.trans ((below_drewN _ w1 nq).mono B1.out.size)⟩
      case measure=>simp [intOf];omega
     ·have h0:0<k:=by omega
      have hE:=HFR.out h0 hw;have p0:=HPV.out h0 w1 B1.out;obtain ⟨g,hg⟩:∃g,l[k-1]'(by omega)=g:=⟨_,rfl⟩;rw [hg] at hE p0;have hwr:IntKind.i64.wrap ((k:Int)-1)=((k-1:Nat):Int):=by rw [IntWalk.i64_in _ (by omega)];omega
      have hd0:decide (0<k)=true:=decide_eq_true (by omega);have hkl:((k-1:Nat):Int)<(l.length:Int):=by omega
      obtain ⟨lq,hlq⟩:∃lq,(Op.bytesLess f.name.toList g.name.toList||f.name.toList==g.name.toList)=lq:=⟨_,rfl⟩;have HEQ:Hid (lockE (prevW l k) f=if lq=true then 9 else 0):=by show _=_;rw [hE,leq_names,hlq]
      have HLQ:=Lib.hid hlq;clear hE hg hlq hw HW HFR HFI HPV;go_wp2_with fail;go_quiet (fail);clear hwr hkl hd0 p0;rw [HLQ.out];obtain ⟨wq,hwq⟩:∃wq,w1.drewN nq=wq:=⟨_,rfl⟩;have Bq:Hid (Below w.heap.size w wq):=by show Below _ _ _;rw [←hwq];exact B1.out.trans ((below_drewN _ w1 nq).mono B1.out.size)
      rw [hwq];clear hwq c0 B1
      cases lq with
      |true=>
       have HY:=Lib.hid (HAT.out 8 (by rw [HEQ.out];rfl));have e1:wq.cell? ⟨8,0,none⟩=some (sentV E 8):=(HE.out.ext Bq.out).1.err 8 (by decide);clear HAT HNX HEQ HF;go_wp2_with fail;go_ret;refine ⟨⟨_,rfl,?_⟩,Bq.out.alloc Bq.out.size _⟩;show IsErr _ _ _ _;rw [HY.out];exact IsErr.fault E _ (8) (by omega) _ _ (by rw [World.cell?_alloc_at _ _ _ _ rfl];rfl) (by rw [World.cell?_alloc_at _ _ _ _ rfl];rfl)
      |false=>
       have HF2:Hid (lockGo none 0 l=lockGo (prevW l (k+1)) (k+1) (l.drop (k+1))):=HNX.out (by rw [HEQ.out];rfl);clear HAT HNX HEQ HF;go_wp2_with fail;go_roundw
       case rel=>exact ⟨k+1,by omega,by go_num,HF2,Bq.out⟩
       case measure=>simp [intOf];omega
   ·obtain rfl:k=l.length:=by omega
    have HY:=Lib.hid (lockEr_end h20 HF.out);clear HF;go_wp2_with fail;go_ret;exact ⟨⟨_,rfl,by show IsErr _ _ _ _;rw [HY.out];exact .inl ⟨rfl,rfl⟩⟩,hb⟩
 ·have HY:=Lib.hid (lockEr_many (l:=l) (by omega));have c1:w.cell? ⟨7,0,none⟩=some (sentV E 7):=HE.out.1.err 7 (by decide);go_wp2_with fail;go_ret;exact ⟨⟨_,rfl,by show IsErr _ _ _ _;rw [HY.out];exact IsErr.base E _ 7 (by decide)⟩,Below.refl _ _⟩
theorem wantTx_len (x:WantB):(wantTx x).length≤x.name.size+x.url.size+x.kind.size+30:=by
 by_cases h:wantE x=0
 ·obtain ⟨n1,n2,n3,n4⟩:=want_nums h;have d1:(Lib.decDigits x.strip.toNat).length≤10:=decDigits_len_le 9 _ (by omega);have d2:(Lib.decDigits x.sum.toNat).length≤10:=decDigits_len_le 9 _ (by omega);rw [wantTx_is h];simp only [List.length_append,List.length_cons,bl_length];omega
 ·unfold wantTx;rw [if_pos h];simp
theorem lockFind_any (v:Value) (l:List WantB) (p:ByteArray) (w:World) (hv:WRow w v l) (hl:l.length≤100000):
  Calls Tryz.prog 121 #[v,.string p] w (WantIxPost l p w):=by
 obtain ⟨tb,htb⟩:∃tb,w.heap.size=tb:=⟨_,rfl⟩;obtain ⟨w0,hw0⟩:∃w0,w.alloc (.cells #[.string p] 9)=w0:=⟨_,rfl⟩;have hB:Below w.heap.size w w0:=by rw [←hw0];exact (Below.refl _ w).alloc (Nat.le_refl _) _
 have hT:w0.heap[tb]? =some (.cells #[.string p] 9 (0,0)):=by rw [←hw0,←htb];exact heap_alloc_new w _
 have C:=Lib.hid (indexName_any v l p tb w0 (hv.ext hB) hl (by rw [Lib.cell_of_heap hT];rfl));have HA:=Lib.hid hB;have HW0:=Lib.hid hw0;have HTB:=Lib.hid htb;obtain ⟨ao,cap,rfl⟩:=hv.len;clear hB hv hT hw0 htb;go_enter Tryz.func121,Tryz.ntmps121;go_wp2_with fail;rw [HW0.out,HTB.out];refine C.out.mono ?_;clear C;rintro e w1 ⟨rfl,hb1⟩;go_wp2_with fail;go_ret;exact ⟨rfl,HA.out.trans (hb1.mono HA.out.size)⟩
theorem Tryz.infoTs:(Tryz.prog.info? 124).map (fun i=>(i.zero,i.size,i.bytes))=some (some (.slice none 0 0),1,24):=by kernel_rfl
theorem rows_apart {w:World} {base base':Nat} {e e':TypeId} {size size' n n':Nat} {v v':Value} {xs xs':List Value} (h:w.ownsRow base e size v n xs) (h':w.ownsRow base' e' size' v' n' xs') (hne:e≠e'):v.ownBlock=none∨v.ownBlock≠v'.ownBlock:=by
 rcases h.2 with ⟨rfl,_⟩|⟨g,cap,cur,rfl,_,hg,_⟩
 ·exact .inl rfl
 ·rcases h'.2 with ⟨rfl,_⟩|⟨g',cap',cur',rfl,_,hg',_⟩
  ·exact .inr (fun e=>by cases e)
  ·refine .inr (fun e=>?_);obtain rfl:g=g':=by injection e
   rw [hg] at hg';injection hg' with hg'
   injection hg' with _ h2 _
   exact hne h2
theorem row_low {w:World} {base B size n:Nat} {e:TypeId} {v:Value} {xs:List Value} (h:w.ownsRow base e size v n xs) (hB:B≤base):w.ownsRow B e size v n xs:=by
 refine ⟨h.1,?_⟩;rcases h.2 with h0|⟨g,cap,cur,hv,hb,hr⟩
 ·exact .inl h0
 ·exact .inr ⟨g,cap,cur,hv,Nat.le_trans hB hb,hr⟩
def FVs (w:World) (B:Nat):List Value→List (List FileB)→Prop
 | [],[]=>True
 |v::vs,t::ts=>FOwn w B v t∧FVs w B vs ts
 |_,_=>False
theorem FVs.len {w:World} {B:Nat}:∀{vs ts},FVs w B vs ts→vs.length=ts.length
 | [],[],_=>rfl
 |v::vs,t::ts,h=>by rw [List.length_cons,List.length_cons,FVs.len h.2]
theorem FVs.map {w w':World} {B B':Nat} (hk:∀v t,FOwn w B v t→FOwn w' B' v t):∀{vs ts},FVs w B vs ts→FVs w' B' vs ts
 | [],[],_=>trivial
 |_::_,_::_,h=>⟨hk _ _ h.1,FVs.map hk h.2⟩
theorem FVs.snoc {w:World} {B:Nat}:∀{vs ts} {v:Value} {t:List FileB},FVs w B vs ts→FOwn w B v t→FVs w B (vs++[v]) (ts++[t])
 | [],[],_,_,_,hf=>⟨hf,trivial⟩
 |_::_,_::_,_,_,h,hf=>⟨h.1,FVs.snoc h.2 hf⟩
theorem FVs.at {w:World} {B:Nat}:∀{vs ts} (k:Nat) (h1:k<vs.length) (h2:k<ts.length),FVs w B vs ts→FOwn w B vs[k] ts[k]
 |v::vs,t::ts,0,_,_,h=>h.1
 |v::vs,t::ts,k+1,h1,h2,h=>FVs.at k (by simpa using h1) (by simpa using h2) h.2
theorem FVs.one {w:World} {B:Nat}:∀{vs ts},FVs w B vs ts→∀u∈vs,u.oneCell'=true
 | [],[],_,u,hu=>by cases hu
 |v::vs,t::ts,h,u,hu=>by
  rcases List.mem_cons.1 hu with rfl|hu
  ·obtain ⟨ao,cap,rfl⟩:=h.1.shape;rfl
  ·exact FVs.one h.2 u hu
def TsOwn (w:World) (B:Nat) (v:Value) (ts:List (List FileB)):Prop:=∃vs,w.ownsRow B 124 1 v ts.length vs∧FVs w B vs ts
theorem TsOwn.nil (w:World) (B:Nat):TsOwn w B (.slice none 0 0) []:=⟨[],World.ownsRow_nil _ _ _ _,trivial⟩
theorem TsOwn.shape {w:World} {B:Nat} {v:Value} {ts:List (List FileB)} (h:TsOwn w B v ts):∃ao cap,v=.slice ao ts.length cap:=by
 obtain ⟨vs,h1,_⟩:=h;rcases h1.2 with ⟨rfl,h0⟩|⟨g,cap,cur,rfl,_⟩
 ·exact ⟨none,0,by rw [h0]⟩
 ·exact ⟨_,_,rfl⟩
theorem TsOwn.ext {w w':World} {B:Nat} {v:Value} {ts:List (List FileB)} (h:TsOwn w B v ts) (hb:Below w.heap.size w w'):TsOwn w' B v ts:=by
 obtain ⟨vs,h1,h2⟩:=h;exact ⟨vs,owns_below h1 hb,h2.map fun _ _ h=>h.ext hb⟩
theorem TsOwn.low {w:World} {B B':Nat} {v:Value} {ts:List (List FileB)} (h:TsOwn w B v ts) (hb:B'≤B):TsOwn w B' v ts:=by
 obtain ⟨vs,h1,h2⟩:=h;exact ⟨vs,row_low h1 hb,h2.map fun _ _ h=>h.low hb⟩
theorem TsOwn.keeps {K:Obj→Prop} {w w':World} {B B2:Nat} {v:Value} {ts:List (List FileB)} (h:TsOwn w B v ts) (hk:Keeps K B2 w w') (h1:∀cs,¬K (.cells cs 124 (0,0))) (h2:∀cs,¬K (.cells cs 170 (0,0))):TsOwn w' B v ts:=by
 obtain ⟨vs,h3,h4⟩:=h;exact ⟨vs,hk.owns h3 h1,h4.map fun _ _ h=>hk.owns h h2⟩
theorem TsOwn.at {w:World} {B:Nat} {ao:Option Addr} {n cap k:Nat} {ts:List (List FileB)} (h:TsOwn w B (.slice ao n cap) ts) (hk:k<ts.length):∃g v,ao=some ⟨g,0,none⟩∧g<w.heap.size∧w.cell? ⟨g,k,none⟩=some v∧FOwn w B v ts[k]:=by
 obtain ⟨vs,h1,h2⟩:=h;have hl:=h2.len;rcases h1.2 with ⟨_,h0⟩|⟨g,cap',cur,e,hb,hg,hn,hc,hs,ht⟩
 ·omega
 ·injection e with e1 _ _
  have hkv:k<vs.length:=by omega
  refine ⟨g,vs[k],e1,(Array.getElem?_eq_some_iff.1 hg).1,?_,FVs.at k hkv hk h2⟩;rw [Lib.cell_of_heap hg];rw [Nat.mul_one] at ht;have hks:k<cur.size:=by omega
  rw [Array.getElem?_eq_getElem hks];have:cur.toList.take ts.length=vs:=ht;have h3:vs[k]=cur[k]:=by
   have:(cur.toList.take ts.length)[k]? =vs[k]?:=by rw [this]
   rw [List.getElem?_take_of_lt hk,List.getElem?_eq_getElem hkv,Array.getElem?_toList,Array.getElem?_eq_getElem hks] at this;exact (Option.some.inj this).symm
  rw [h3]
theorem TsOwn.cap {w:World} {B:Nat} {ao:Option Addr} {n cap:Nat} {ts:List (List FileB)} (h:TsOwn w B (.slice ao n cap) ts):ts.length≤cap:=by
 obtain ⟨vs,h1,_⟩:=h;rcases h1.2 with ⟨e,h0⟩|⟨g,cap',cur,e,hb,hg,hn,_⟩
 ·rw [h0];exact Nat.zero_le _
 ·injection e with _ _ e3;omega
theorem TsOwn.snoc {w w':World} {B:Nat} {v v' x:Value} {vs:List Value} {ts:List (List FileB)} {t:List FileB} (h1:w.ownsRow B 124 1 v ts.length vs) (h2:FVs w B vs ts) (hx:FOwn w B x t)
  (ho:w'.ownsRow B 124 1 v' (ts.length+1) (vs++[x])) (hg:w.grownBy w' v.ownBlock):TsOwn w' B v' (ts++[t]):=by
 refine ⟨vs++[x],by rw [List.length_append];exact ho,FVs.snoc (h2.map fun u r hu=>?_) ?_⟩
 ·exact World.ownsRow.kept hu hg (rows_apart hu h1 (by decide))
 ·exact World.ownsRow.kept hx hg (rows_apart hx h1 (by decide))
theorem wpList_append_tree {w:World} {ops:Array Oper} {rest:List Oper} {o:Oper} {a:Act} {Q:Exit→Act→World→Prop} (hgd:o.guard=none) (s x:Operand)
  (ho:o.op=.call {callee:= .builtin .append,args:=#[s,x],argTypes:=#[186,186]})
  (base:Nat) (v:Value) (ts:List (List FileB)) (hs:a.eval s=v) (hown:TsOwn w base v ts) (u:Value) (t:List FileB) (hu:FOwn w base u t) (hx:a.eval x=.slice (some ⟨w.heap.size,0,none⟩) 1 1) (hlen:ts.length≤100000) (hbase:base≤w.heap.size)
  (h:∀v' w',Hid (TsOwn w' base v' (ts++[t]))→Hid (∀w0,Below base w0 w→Below base w0 w')→wpList Tryz.prog ops Q rest (a.put o.dst v') w'):wpList Tryz.prog ops Q (o::rest) a (w.alloc (.cells #[u] 124)):=by
 obtain ⟨i0,hi0,hz0,hz1,hz2⟩:=info_parts Tryz.infoTs;obtain ⟨vs,h1,h2⟩:=hown;have hal:Below w.heap.size w (w.alloc (.cells #[u] 124)):=(Below.refl _ _).alloc (Nat.le_refl _) _;have h1a:=h1.alloc (.cells #[u] 124);refine wpList_append_own _ hgd s x 186 ho base 124 i0 (.slice none 0 0) 1 24 Tryz.underlying186 hi0 hz0 hz1 hz2 rfl (by decide) v ts.length vs hs h1a ⟨w.heap.size,0,none⟩ 1 1 [u] hx rfl ?c1 ?c2 ?c3 ?c4 ?c5 ?_
 case c1=>
  intro j y hj
  match j,hj with
  |0,hj=>
   obtain rfl:u=y:=by simpa using hj
   rw [Addr.add_lit,World.cell?_alloc_at _ _ _ _ rfl];rfl
  |j+1,hj=>simp at hj
 case c2=>
  intro y hy;obtain rfl:=List.mem_singleton.1 hy;obtain ⟨ao,cap,rfl⟩:=hu.shape;rfl
 case c3=>rw [maxLen_eq];omega
 case c4=>omega
 case c5=>simp;omega
 intro v' w' ho' hg' _;refine h v' w' (TsOwn.snoc h1a (h2.map fun _ _ k=>k.ext hal) (hu.ext hal) ho' hg') (fun w0 hb=>?_);have hb2:=hb.alloc hbase (.cells #[u] 124);exact hb2.grown hg' (by simp;omega) (fun q hq=>(World.ownsRow.lt h1 q hq).1)
def ZRow (w:World) (v:Value) (L:List (Value×List FileB)):Prop:=
 (∃ao cap,v=.slice ao L.length cap∧L.length≤cap∧cap≤maxLen∧(∀i,i<L.length→∃b off,ao=some ⟨b,off,none⟩∧b<w.heap.size∧
  ∀k,(hk:k<L.length)→w.cell? ⟨b,off+k,none⟩=some L[k].1))∧∀x∈L,FArg w x.1 x.2
theorem ZRow.ext {w w':World} {v:Value} {L:List (Value×List FileB)} (h:ZRow w v L) (hb:Below w.heap.size w w'):ZRow w' v L:=by
 obtain ⟨⟨ao,cap,h1,h2,h3,h4⟩,h5⟩:=h;refine ⟨⟨ao,cap,h1,h2,h3,fun i hi=>?_⟩,fun x hx=>(h5 x hx).ext hb⟩;obtain ⟨b,off,e,hbl,hc⟩:=h4 i hi;exact ⟨b,off,e,Nat.lt_of_lt_of_le hbl hb.size,fun k hk=>by rw [hb.cell (p:=⟨b,off+k,none⟩) hbl];exact hc k hk⟩
theorem ZRow.len {w:World} {v:Value} {L:List (Value×List FileB)} (h:ZRow w v L):∃ao cap,v=.slice ao L.length cap:=by
 obtain ⟨⟨ao,cap,h1,_⟩,_⟩:=h;exact ⟨ao,cap,h1⟩
theorem ZRow.at {w:World} {ao:Option Addr} {n cap k:Nat} {L:List (Value×List FileB)} (h:ZRow w (.slice ao n cap) L) (hk:k<L.length):∃b off,ao=some ⟨b,off,none⟩∧b<w.heap.size∧w.cell? ⟨b,off+k,none⟩=some L[k].1∧FArg w L[k].1 L[k].2:=by
 obtain ⟨⟨ao',cap',e,_,_,h4⟩,h5⟩:=h;injection e with e0 _ _
 subst e0;obtain ⟨b,off,e,hbl,hc⟩:=h4 k hk;exact ⟨b,off,e,hbl,hc k hk,h5 _ (List.getElem_mem hk)⟩
def LBundPost (E:Nat→Addr) (r:Er×List UInt8) (w:World) (e:Ending) (w':World):Prop:=
 (∃(t:ByteArray) (ev:Value),e=.returned (.tuple #[.string t,ev])∧Hid (bl t=r.2)∧Hid (IsErr E w' ev r.1))∧Below w.heap.size w w'
theorem right_small {l:List FileB} (h:(treeEr l).code=0):l.length≤30∧(∀f∈l,SmallF f)∧∀f∈l,f.path.size≤78:=by
 obtain ⟨_,h1,_,h3⟩:=treeEr_zero h;have hp:∀f∈l,f.path.size≤78:=fun f hf=>by
  have h5:=path_len (h3 f hf).1;rwa [bl_length] at h5
 exact ⟨h1,fun f hf=>⟨by have:=hp f hf;omega,by have:=(h3 f hf).2;omega⟩,hp⟩
theorem want_i64 {w:WantB} (h:wantE w=0):I64 w.sum:=by have:=(wantE_zero h).sum;constructor<;>omega
theorem want_name {w:WantB} (h:wantE w=0):w.name.size≤12:=by
 have:=partB_len (wantE_zero h).name;rwa [bl_length] at this
theorem graft_tree {l m:List FileB} {d:ByteArray} (h:(graftT l d m).1.code=0):(treeEr (graftT l d m).2).code=0:=(treeOk_iff _).2 (graft_ok h).1.ok
theorem lockBundle_any {E:Nat→Addr} (B b:Nat) (h:HeldB) (v:Value) (l:List WantB) (w:World) (hi:HeldIs w B b h) (hv:WRow w v l) (hl:l.length≤100000) (hS:∀f∈l,SmallW f) (hE:KEnv E w):
  Calls Tryz.prog 129 #[.pointer (some ⟨b,0,none⟩),v] w (LBundPost E (bundleLk h l) w):=by
 have HV:=Lib.hid hv;have HI:=Lib.hid hi;have HHO:=Lib.hid hi.1;have HE:=Lib.hid hE;have C:=Lib.hid (lockCheck_any v l w hv hl hS hE.1);obtain ⟨ao,cap,rfl⟩:=hv.len;clear hv hi hE hS;go_enter Tryz.func129,Tryz.ntmps129;go_wp2_with fail;refine C.out.mono ?_;clear C;rintro e w1 ⟨⟨ev,rfl,HER⟩,hb1⟩;have B1:=Lib.hid hb1;clear hb1;by_cases hz:(lockEr l).code=0;rotate_left
 ·obtain ⟨t,x,rfl⟩:=HER.out.some_inv hz;have HY:=Lib.hid (bundle_lock (h:=h) hz);clear hz;go_wp2_with fail;go_ret2;rw [HY.out];exact ⟨⟨⟨#[]⟩,_,rfl,rfl,HER⟩,B1.out⟩
 obtain rfl:ev=.nilIface:=HER.out.nil0 hz;have HZ:=Lib.hid hz;have OK:=Lib.hid ((lockOk_iff l).1 hz);have hl20:=OK.out.few;clear hz HER;go_wp2_with fail;go_loopw [8,27] (fun tv i wr=>∃(k:Nat) (ts:List (List FileB)),k≤l.length∧i=.int .i64 k∧Hid (TsOwn wr w.heap.size tv ts)∧Hid (ts=(l.take k).map (treeOf h))∧Hid (∀x∈l.take k,getL h.trees x.sum=some (treeOf h x))∧Hid (missGo h 0 l=missGo h k (l.drop k))∧Below w.heap.size w wr) (fun _ i _=>l.length- (intOf i).toNat)
 case atStart=>exact ⟨0,[],Nat.zero_le _,rfl,TsOwn.nil _ _,rfl,(fun x hx=>by cases hx),rfl,B1.out⟩
 case round=>
  clear B1;obtain ⟨k,ts,hk,rfl,HT,HTS,HG,HM,hb⟩:=hrel;have Bw:=Lib.hid hb;have htl:ts.length≤20:=by rw [HTS.out,List.length_map,List.length_take];omega
  obtain ⟨tso,tc,rfl⟩:=HT.out.shape;clear hb;by_cases hlt:k<l.length
  ·obtain ⟨ba,off,rfl,hcell⟩:=HV.out.at hlt;obtain ⟨q0,q1,q2,q3,q4⟩:=hcell wr Bw.out;have hwe:=OK.out.each l[k] (List.getElem_mem hlt);have hi64:=want_i64 hwe;have HMA:=Lib.hid (fun hn=>bundle_miss HZ.out (miss_at hlt HM.out hn));have HMN:Hid (∀t,getL h.trees l[k].sum=some t→missGo h 0 l=missGo h (k+1) (l.drop (k+1))∧ts++[t]=(l.take (k+1)).map (treeOf h)∧∀x∈l.take (k+1),getL h.trees x.sum=some (treeOf h x)):=fun t ht=>by
    have htt:=treeOf_get ht;refine ⟨miss_next hlt HM.out ht,?_,fun x hx=>?_⟩
    ·rw [List.take_succ_eq_append_getElem hlt,List.map_append,←HTS.out,←htt];rfl
    ·rw [List.take_succ_eq_append_getElem hlt] at hx;rcases List.mem_append.1 hx with hx|hx
     ·exact HG.out x hx
     ·obtain rfl:=List.mem_singleton.1 hx;rw [ht,htt]
   clear hcell hwe HG HTS HM;obtain ⟨f,hf⟩:∃f,l[k]=f:=⟨_,rfl⟩;rw [hf] at q0 q1 q2 q3 q4 hi64 HMA HMN;clear hf;have HI64:=Lib.hid hi64;obtain ⟨pf,hpf⟩:∃pf,wr.heap.size=pf:=⟨_,rfl⟩;obtain ⟨wa,hwa⟩:∃wa,wr.alloc (.cells #[.string f.name,.string f.url,.string f.kind,.int .i64 f.strip,.int .i64 f.sum] 134)=wa:=⟨_,rfl⟩;have hal:Below wr.heap.size wr wa:=by rw [←hwa];exact (Below.refl _ _).alloc (Nat.le_refl _) _
   have BX:=Lib.hid (show WBox wa pf f by rw [←hwa,←hpf];exact WBox.new wr f);have Ba:=Lib.hid (Bw.out.trans (hal.mono Bw.out.size));have HTa:=Lib.hid (HT.out.ext hal);have HPF:=Lib.hid hpf;have HWA:=Lib.hid hwa;have C:=Lib.hid (heldGet_any (E:=E) B b h f.sum HI64.out wa (HI.out.below Ba.out) (HE.out.ext Ba.out).1.1);clear hal hpf hwa hi64 HT;go_upto_region 11 with fail
   rw [HWA.out,HPF.out];clear q0 q1 q2 q3 q4;obtain ⟨c0,c1,c2,c3,c4⟩:=BX.out.cells;go_wp2_with fail;refine C.out.mono ?_;clear C c0 c1 c2 c3 c4;rintro e w2 ⟨⟨t,tv,hg,rfl,HF⟩|⟨hg,rfl⟩,hb2⟩
   ·have HN:=Lib.hid (HMN.out t hg);have B2:=Lib.hid (Ba.out.trans (hb2.mono Ba.out.size));have HT2:=Lib.hid (HTa.out.ext hb2);have HF2:=Lib.hid (HF.out.low Ba.out.size);obtain ⟨fo,fc,rfl⟩:=HF.out.shape;clear hg HMA HMN HF HTa hb2;go_wp2_with (at_builtin;refine wpList_append_tree rfl _ _ rfl w.heap.size (.slice tso ts.length tc) ts rfl HT2.out (.slice fo t.length fc) t HF2.out rfl (by omega) B2.out.size ?_);intro v3 w3 HT3 HB3';have B3:=Lib.hid (HB3'.out w B2.out);clear HB3' HT2 HF2 B2;go_wp2_with fail;go_roundw
    case rel=>exact ⟨k+1,ts++[t],by omega,by go_num,HT3,HN.out.2.1,HN.out.2.2,HN.out.1,B3.out⟩
    case measure=>simp [intOf];omega
   ·have HY:=Lib.hid (HMA.out hg);have B2:=Lib.hid (Ba.out.trans (hb2.mono Ba.out.size));clear hg HMA HMN;go_wp2_with fail;go_ret2;rw [HY.out];refine ⟨⟨⟨#[]⟩,_,rfl,rfl,?_⟩,B2.out.alloc B2.out.size _⟩;exact IsErr.fault E _ 5 (by decide) _ _ (by rw [World.cell?_alloc_at _ _ _ _ rfl];rfl) (by rw [World.cell?_alloc_at _ _ _ _ rfl];rfl)
  ·obtain rfl:k=l.length:=by omega
   have HM2:=Lib.hid (miss_end HM.out);have HTS2:Hid (ts=l.map (treeOf h)):=by show _=_;rw [HTS.out,List.take_length]
   have HG2:Hid (∀x∈l,getL h.trees x.sum=some (treeOf h x)):=by have:=HG.out;rwa [List.take_length] at this
   clear HM HTS HG;obtain ⟨we,rfl⟩:∃we,we=wr:=⟨_,rfl⟩;go_wp2_with fail;go_loopw [7,53] (fun av i wr=>∃(k:Nat) (acc:List FileB),k≤l.length∧i=.int .i64 k∧Hid (FOwn wr w.heap.size av acc)∧Hid ((treeEr acc).code=0)∧Hid (graftsGo h [] l=graftsGo h acc (l.drop k))∧Hid (Below we.heap.size we wr)) (fun _ i _=>l.length- (intOf i).toNat)
   case atStart=>exact ⟨0,[],Nat.zero_le _,rfl,FOwn.nil _ _,rfl,rfl,Below.refl _ _⟩
   case round=>
    obtain ⟨k,acc,hk,rfl,HA,HAE,HGR,Bq⟩:=hrel;obtain ⟨oo,oc,rfl⟩:=HA.out.shape;have ra1:=(right_small HAE.out).1;have Bw2:=Lib.hid (Bw.out.trans (Bq.out.mono Bw.out.size));have HT2:=Lib.hid (HT.out.ext Bq.out);by_cases hlt:k<l.length
    ·obtain ⟨ba,off,rfl,hcell⟩:=HV.out.at hlt;obtain ⟨q0,q1,q2,q3,q4⟩:=hcell wr Bw2.out;have hkt:k<ts.length:=by rw [HTS2.out,List.length_map];exact hlt
     obtain ⟨g,tv,rfl,hgl,hgc,HTV⟩:=HT2.out.at hkt;have HTV':=Lib.hid HTV;clear HTV;have HTV:=HTV';clear HTV';have htk:ts[k]=treeOf h l[k]:=by
      have:ts[k]? =(l.map (treeOf h))[k]?:=by rw [HTS2.out]
      rw [List.getElem?_eq_getElem hkt,List.getElem?_eq_getElem (by rw [List.length_map];exact hlt),List.getElem_map] at this;exact Option.some.inj this
     rw [htk] at HTV;have HTR:Hid ((treeEr (treeOf h l[k])).code=0):=(held_ok HHO.out (HG2.out l[k] (List.getElem_mem hlt))).1;have hnm:=want_name (OK.out.each l[k] (List.getElem_mem hlt));have HGB:=Lib.hid (fun c=>grafts_bad (c:=c) hlt HGR.out);have HGN:=Lib.hid (grafts_next hlt HGR.out);clear hcell htk HGR;obtain ⟨f,hf⟩:∃f,l[k]=f:=⟨_,rfl⟩;rw [hf] at q0 q1 q2 q3 q4 HTV HTR hnm HGB HGN;clear hf;obtain ⟨t,ht⟩:∃t,treeOf h f=t:=⟨_,rfl⟩;rw [ht] at HTV HTR HGB HGN;clear ht;obtain ⟨fo,fc,rfl⟩:=HTV.out.shape;obtain ⟨pf,hpf⟩:∃pf,wr.heap.size=pf:=⟨_,rfl⟩;obtain ⟨wa,hwa⟩:∃wa,wr.alloc (.cells #[.string f.name,.string f.url,.string f.kind,.int .i64 f.strip,.int .i64 f.sum] 134)=wa:=⟨_,rfl⟩;have hal:Below wr.heap.size wr wa:=by rw [←hwa];exact (Below.refl _ _).alloc (Nat.le_refl _) _
     have BX:=Lib.hid (show WBox wa pf f by rw [←hwa,←hpf];exact WBox.new wr f);have Bqa:=Lib.hid (Bq.out.trans (hal.mono Bq.out.size));have Ba:=Lib.hid (Bw2.out.trans (hal.mono Bw2.out.size));have hga:wa.cell? ⟨g,k,none⟩=some (.slice fo t.length fc):=(hal.cell (p:=⟨g,k,none⟩) hgl).trans hgc;have HPF:=Lib.hid hpf;have HWA:=Lib.hid hwa;have hd:Below wa.heap.size wa wa.drew:=below_drewN _ _ 1;have hald:=hal.trans (hd.mono hal.size);have C:=Lib.hid (treeGraft_any (E:=E) (.slice oo acc.length oc) (.slice fo t.length fc) acc t f.name wa.drew (HA.out.ext hald).arg (HTV.out.ext hald).row (by have:=ra1;omega) (by have:=(right_small HTR.out).1;omega) (right_small HAE.out).2.1 (right_small HTR.out).2.1 (fun x hx=>by have:=(right_small HTR.out).2.2 x hx;omega) (by omega) (HE.out.ext (Ba.out.trans (hd.mono Ba.out.size))).1);clear hal hpf hwa hgc HT2 HA hd hald;go_upto_region 19 with fail
     rw [HWA.out,HPF.out];clear q0 q1 q2 q3 q4;obtain ⟨c0,_,_,_,_⟩:=BX.out.cells;have d0:wa.drew.cell? ⟨pf,0,none⟩=some (.string f.name):=c0;have hgd:wa.drew.cell? ⟨g,k,none⟩=some (.slice fo t.length fc):=hga;go_region_with (go_at_call 170;refine C.out.mono ?_;clear C;rintro e w3 ⟨⟨ov,ev,rfl,HI3,HO3⟩,hb3⟩)
     all_goals
      have hb3':Below wa.heap.size wa w3:=(below_drewN _ wa 1).trans hb3;have B3:=Lib.hid (Ba.out.trans (hb3'.mono Ba.out.size));have Bq3:=Lib.hid (Bqa.out.trans (hb3'.mono Bqa.out.size));have HO4:=Lib.hid (HO3.out.low (show w.heap.size≤wa.drew.heap.size from Ba.out.size));clear hb3 hb3' HO3 c0 d0 hga hgd BX;by_cases hz:(graftT acc f.name t).1.code=0
      ·obtain rfl:ev=.nilIface:=HI3.out.nil0 hz;have HN2:=Lib.hid (HGN.out hz);have HN3:=Lib.hid (graft_tree hz);obtain ⟨acc2,hacc⟩:∃x,(graftT acc f.name t).2=x:=⟨_,rfl⟩;rw [hacc] at HN2 HN3 HO4;obtain ⟨o2,n2,c2,rfl⟩:∃o n c,ov=.slice o n c:=by obtain ⟨o,c,e⟩:=HO4.out.shape;exact ⟨o,_,c,e⟩
       clear hz HGN HGB HI3 hacc;go_wp2_with fail;go_roundw
       case rel=>exact ⟨k+1,acc2,by omega,by go_num,HO4,HN3,HN2,Bq3⟩
       case measure=>simp [intOf];omega
      ·obtain ⟨c,hc⟩:∃c,(graftT acc f.name t).1.code=c+1:=⟨_,(Nat.succ_pred hz).symm⟩;have HY:=Lib.hid (bundle_bad2 HZ.out HM2.out (HGB.out c hc));have C:=Lib.hid (treeBare_any (E:=E) _ ev w3 HI3.out);rw [hc] at C;obtain ⟨te,x,rfl⟩:=HI3.out.some_inv hz;clear hz hc HGB HGN HI3;go_wp2_with fail;refine C.out.mono ?_;clear C;rintro e w4 ⟨⟨u,rfl,HU⟩,rfl⟩;go_wp2_with fail;go_ret2;rw [HY.out];exact ⟨⟨⟨#[]⟩,_,rfl,rfl,HU⟩,B3.out⟩
    ·obtain rfl:k=l.length:=by omega
     have HY:=Lib.hid (bundle_good HZ.out HM2.out (grafts_end HGR.out));have HPK:Hid (packT acc=packL acc):=by show _=_;unfold packT;rw [if_pos HAE.out]
     have HER:Hid (treeEr acc=⟨0,none⟩):=(treeEr_zero HAE.out).1;have C:=Lib.hid (packMake_any (E:=E) (.slice oo acc.length oc) acc wr HA.out.row (by omega) (right_small HAE.out).2.1 (HE.out.ext Bw2.out));clear HGR HT2;go_wp2_with fail;refine C.out.mono ?_;clear C;rintro e w3 ⟨⟨t,ev,rfl,HTX,HI3⟩,hb3⟩;go_wp2_with fail;go_ret2;rw [HY.out];exact ⟨⟨t,_,rfl,by show bl t=packL acc;rw [←HPK.out];exact HTX.out,by show IsErr _ _ _ ⟨0,none⟩;rw [←HER.out];exact HI3.out⟩,Bw2.out.trans (hb3.mono Bw2.out.size)⟩
def LSplitPost (E:Nat→Addr) (r:Er×List (List FileB)) (w:World) (e:Ending) (w':World):Prop:=
 (∃v ev,e=.returned (.tuple #[v,ev])∧Hid (IsErr E w' ev r.1)∧Hid (TsOwn w' w.heap.size v r.2))∧Below w.heap.size w w'
theorem LSplitPost.none {E:Nat→Addr} {er:Er} {w w':World} {ev:Value} (h:Hid (IsErr E w' ev er)) (hb:Below w.heap.size w w'):LSplitPost E (er,[]) w (.returned (.tuple #[.slice none 0 0,ev])) w':=
 ⟨⟨_,_,rfl,h,TsOwn.nil _ _⟩,hb⟩
theorem IsErr.bare_inv {E:Nat→Addr} {w:World} {u:Value} {c:Nat} (h:IsErr E w u ⟨c+1,none⟩):u=sentV E c∧c<13:=by
 rcases h with ⟨h,_⟩|⟨k,hk,h,rfl⟩|⟨k,a,b,hk,h,_⟩
 ·injection h with h _;cases h
 ·injection h with h _
  obtain rfl:c=k:=by omega
  exact ⟨rfl,hk⟩
 ·injection h with _ h;cases h
theorem underT_right {l:List FileB} (d:ByteArray) (h:(treeEr l).code=0):underT l d=(⟨0,none⟩,underL l d):=by unfold underT;rw [if_neg (by rw [h];decide)]
theorem cutP_small {d:ByteArray} {f:FileB} (h:SmallF f):SmallF (cutP d f):=by
 unfold cutP;split
 ·exact h
 ·refine ⟨?_,h.2⟩;have:(bl f.path).length≤30000:=by rw [bl_length];exact h.1
  show (⟨((bl f.path).drop (d.size+1)).toArray⟩:ByteArray).size≤30000;show ((bl f.path).drop (d.size+1)).toArray.size≤30000;rw [List.size_toArray,List.length_drop];omega
theorem underL_small {l:List FileB} {d:ByteArray} (h:∀f∈l,SmallF f):∀f∈underL l d,SmallF f:=fun f hf=>by
 unfold underL at hf;obtain ⟨g,hg,rfl⟩:=List.mem_map.1 hf;exact cutP_small (h g (List.mem_filter.1 hg).1)
theorem lockSplit_any {E:Nat→Addr} (v:Value) (l:List WantB) (s:ByteArray) (w:World) (hv:WRow w v l) (hl:l.length≤100000) (hS:∀f∈l,SmallW f) (hs:s.size≤1000000) (hE:REnv E w):
  Calls Tryz.prog 130 #[v,.string s] w (LSplitPost E (splitLk l (bl s)) w):=by
 have HV:=Lib.hid hv;have HE:=Lib.hid hE;have C:=Lib.hid (lockCheck_any v l w hv hl hS hE.1.1);obtain ⟨ao,cap,rfl⟩:=hv.len;clear hv hE hS;go_enter Tryz.func130,Tryz.ntmps130;go_wp2_with fail;refine C.out.mono ?_;clear C;rintro e w1 ⟨⟨ev,rfl,HER⟩,hb1⟩;have B1:=Lib.hid hb1;clear hb1;by_cases hz:(lockEr l).code=0;rotate_left
 ·obtain ⟨t,x,rfl⟩:=HER.out.some_inv hz;have HY:=Lib.hid (split_lock (s:=bl s) hz);clear hz;go_wp2_with fail;go_ret2;rw [HY.out];exact LSplitPost.none HER B1.out
 obtain rfl:ev=.nilIface:=HER.out.nil0 hz;have HZ:=Lib.hid hz;have OK:=Lib.hid ((lockOk_iff l).1 hz);have hl20:=OK.out.few;clear hz HER;have C:=Lib.hid (packRead_any s w1 hs (HE.out.ext B1.out));go_wp2_with fail;refine C.out.mono ?_;clear C;rintro e w2 ⟨⟨av,ev,rfl,HA,HER⟩,hb2⟩;have B2:=Lib.hid (B1.out.trans (hb2.mono B1.out.size));clear hb2 B1;by_cases hz:(readEr (bl s)).code=0;rotate_left
 ·obtain ⟨t,x,rfl⟩:=HER.out.some_inv hz;have HY:=Lib.hid (split_read HZ.out hz);clear hz;go_wp2_with fail;go_ret2;rw [HY.out];exact LSplitPost.none HER B2.out
 obtain rfl:ev=.nilIface:=HER.out.nil0 hz;have HF:=Lib.hid (split_from HZ.out hz);have HR:=Lib.hid (read_back hz).1;obtain ⟨all,hall⟩:∃all,readT (bl s)=all:=⟨_,rfl⟩;rw [hall] at HF HR HA;have hal30:=(right_small HR.out).1;obtain ⟨aao,acap,rfl,_⟩:=HA.out.1;have HE2:=Lib.hid (HE.out.ext B2.out);clear hz HER hall HE;go_wp2_with fail;go_loopw [9,30] (fun tv i wr=>∃(k:Nat) (ts:List (List FileB)),k≤l.length∧i=.int .i64 k∧Hid (TsOwn wr w2.heap.size tv ts)∧ts.length≤k∧Hid (SStep all l k ts)∧Hid (Below w2.heap.size w2 wr)) (fun _ i _=>l.length- (intOf i).toNat)
 case atStart=>exact ⟨0,[],Nat.zero_le _,rfl,TsOwn.nil _ _,Nat.le_refl _,SStep.zero _ _,Below.refl _ _⟩
 case round=>
  obtain ⟨k,ts,hk,rfl,HT,htl,HS,Bq⟩:=hrel;obtain ⟨tso,tc,rfl⟩:=HT.out.shape;by_cases hlt:k<l.length
  ·obtain ⟨ba,off,rfl,hcell⟩:=HV.out.at hlt;obtain ⟨q0,q1,q2,q3,q4⟩:=hcell wr (B2.out.trans (Bq.out.mono B2.out.size));have hnm:=want_name (OK.out.each l[k] (List.getElem_mem hlt));have HS1:=Lib.hid (fun c=>HS.out.tree (c:=c) hlt HF.out);have HS2:=Lib.hid (HS.out.sum hlt HF.out);have HS3:=Lib.hid (HS.out.next hlt);clear hcell HS;obtain ⟨f,hf⟩:∃f,l[k]=f:=⟨_,rfl⟩;rw [hf] at q0 q1 q2 q3 q4 hnm HS1 HS2 HS3;clear hf;obtain ⟨pf,hpf⟩:∃pf,wr.heap.size=pf:=⟨_,rfl⟩;obtain ⟨wa,hwa⟩:∃wa,wr.alloc (.cells #[.string f.name,.string f.url,.string f.kind,.int .i64 f.strip,.int .i64 f.sum] 134)=wa:=⟨_,rfl⟩;have hal:Below wr.heap.size wr wa:=by rw [←hwa];exact (Below.refl _ _).alloc (Nat.le_refl _) _
   have BX:=Lib.hid (show WBox wa pf f by rw [←hwa,←hpf];exact WBox.new wr f);have Ba:=Lib.hid (Bq.out.trans (hal.mono Bq.out.size));have HTa:=Lib.hid (HT.out.ext hal);have HPF:=Lib.hid hpf;have HWA:=Lib.hid hwa;have C:=Lib.hid (treeUnder_any (E:=E) (.slice aao all.length acap) all f.name wa (HA.out.ext Ba.out).1 (by omega) (right_small HR.out).2.1 (by omega) (HE2.out.ext Ba.out).1.1);clear hal hpf hwa HT;go_upto_region 11 with fail
   rw [HWA.out,HPF.out];clear q0 q1 q2 q3 q4;obtain ⟨c0,c1,c2,c3,c4⟩:=BX.out.cells;go_wp2_with fail;refine C.out.mono ?_;clear C c0 c1 c2 c3 c4;rw [underT_right f.name HR.out];rintro e w3 ⟨⟨uv,ev,rfl,HI3,HU⟩,hb3⟩;obtain rfl:ev=.nilIface:=HI3.out.nil0 rfl;have B3:=Lib.hid (Ba.out.trans (hb3.mono Ba.out.size));have BX3:=Lib.hid (BX.out.ext hb3);have HT3:=Lib.hid (HTa.out.ext hb3);have HU3:=Lib.hid (HU.out.low Ba.out.size);have hul:=underL_len all f.name;have HUS:=Lib.hid (underL_small (d:=f.name) (right_small HR.out).2.1);obtain ⟨u,hu⟩:∃u,underL all f.name=u:=⟨_,rfl⟩;rw [hu] at HU3 hul HUS HS1 HS2 HS3;obtain ⟨uo,n3,uc,rfl⟩:∃o n c,uv=.slice o n c:=by obtain ⟨o,c,e⟩:=HU3.out.shape;exact ⟨o,_,c,e⟩
   have C:=Lib.hid (packSum_any (E:=E) (.slice uo n3 uc) u w3 HU3.out.row (by omega) HUS.out (HE2.out.ext B3.out).1);clear HI3 hb3 HU hu BX HTa;go_wp2_with fail;refine C.out.mono ?_;clear C;rintro e w4 ⟨⟨ev,rfl,HI4⟩,hb4⟩;have B4:=Lib.hid (B3.out.trans (hb4.mono B3.out.size));have BX4:=Lib.hid (BX3.out.ext hb4);have HT4:=Lib.hid (HT3.out.ext hb4);have HU4:=Lib.hid (HU3.out.ext hb4);obtain ⟨_,_,_,_,c4⟩:=BX4.out.cells;rw [show ((sumL (packT u):Nat):Int)=treeSum u from rfl];clear hb4 BX3 HT3 HU3;obtain ⟨z,hzz⟩:∃z,treeSum u=z:=⟨_,rfl⟩;rw [hzz] at HS2 HS3⊢;clear hzz;by_cases hz:(treeEr u).code=0
   ·obtain rfl:ev=.nilIface:=HI4.out.nil0 hz;have HN1:=Lib.hid (HS2.out hz);have HN2:=Lib.hid (HS3.out hz);clear HI4 HS1 HS2 HS3 hz;by_cases he:z=f.sum
    ·have HN:=Lib.hid (HN2.out he);have e1:(z==f.sum)=true:=by rw [he];exact beq_self_eq_true _
     clear he HN1 HN2;go_wp2_with (at_builtin;refine wpList_append_tree rfl _ _ rfl w2.heap.size (.slice tso ts.length tc) ts rfl HT4.out (.slice uo n3 uc) u HU4.out rfl (by omega) B4.out.size ?_);intro v6 w6 HT6 HB6';have B6:=Lib.hid (HB6'.out w2 B4.out);clear HB6' HT4 HU4 B4 c4 e1;go_wp2_with fail;go_roundw
     case rel=>exact ⟨k+1,ts++[u],by omega,by go_num,HT6,by simp;omega,HN,B6⟩
     case measure=>simp [intOf];omega
    ·have HY:=Lib.hid (HN1.out he);have e1:(z==f.sum)=false:=by rw [beq_eq_false_iff_ne];exact he
     have e3:w4.cell? ⟨11,0,none⟩=some (sentV E 11):=(HE2.out.ext B4.out).1.1.1.err 11 (by decide);have C:=Lib.hid (treeBare_any (E:=E) ⟨12,none⟩ (sentV E 11) w4 (IsErr.base E w4 11 (by decide)));clear he HN1 HN2 HT4 HU4;go_wp2_with fail;refine C.out.mono ?_;clear C;rintro e w5 ⟨⟨y,rfl,HYE⟩,rfl⟩;obtain ⟨rfl,_⟩:=HYE.out.bare_inv;clear HYE;go_wp2_with fail;go_ret2;rw [HY.out];refine LSplitPost.none ?_ ((B2.out.trans (B4.out.mono B2.out.size)).alloc (Nat.le_trans B2.out.size B4.out.size) _);show IsErr _ _ _ _;exact IsErr.fault E _ 11 (by decide) _ _ (by rw [World.cell?_alloc_at _ _ _ _ rfl];rfl) (by rw [World.cell?_alloc_at _ _ _ _ rfl];rfl)
   ·obtain ⟨c,hc⟩:∃c,(treeEr u).code=c+1:=⟨_,(Nat.succ_pred hz).symm⟩;have HY:=Lib.hid (HS1.out c hc);have C:=Lib.hid (treeBare_any (E:=E) _ ev w4 HI4.out);rw [hc] at C;obtain ⟨te,x,rfl⟩:=HI4.out.some_inv hz;clear hz hc HS1 HS2 HS3 HI4 HT4 HU4;go_wp2_with fail;refine C.out.mono ?_;clear C;rintro e w5 ⟨⟨y,rfl,HYE⟩,rfl⟩;obtain ⟨rfl,hc13⟩:=HYE.out.bare_inv;clear HYE;go_wp2_with fail;go_ret2;rw [HY.out];refine LSplitPost.none ?_ ((B2.out.trans (B4.out.mono B2.out.size)).alloc (Nat.le_trans B2.out.size B4.out.size) _);show IsErr _ _ _ _;exact IsErr.fault E _ c hc13 _ _ (by rw [World.cell?_alloc_at _ _ _ _ rfl];rfl) (by rw [World.cell?_alloc_at _ _ _ _ rfl];rfl)
  ·obtain rfl:k=l.length:=by omega
   have HY:=Lib.hid (HS.out.done HF.out);clear HS;go_wp2_with fail;go_ret2;rw [HY.out];exact ⟨⟨_,_,rfl,.inl ⟨rfl,rfl⟩,HT.out.low B2.out.size⟩,B2.out.trans (Bq.out.mono B2.out.size)⟩
end Go.Proofs.YtaabgmbjmfjdjaaGreatDoor
