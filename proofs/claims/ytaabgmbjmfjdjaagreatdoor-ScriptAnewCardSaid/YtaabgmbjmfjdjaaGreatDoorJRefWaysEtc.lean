import Derived.Test.YtaabgmbjmfjdjaaGreatDoorJNetOfEtc
import Derived.Test.YtaabgmbjmfjdjaaGreatDoorJRefTreeEtc
import Derived.Test.YtaabgmbjmfjdjaaGreatDoorJCodesLeEtc
import Derived.Test.YtaabgmbjmfjdjaaGreatDoorJMirrorWays
import Derived.Test.YtaabgmbjmfjdjaaGreatDoorJPathedEtc
import Derived.Deep.RegionHeld3
import Derived.Test.YtaabgmbjmfjdjaaGreatDoorJWantsUp
import Derived.Test.YtaabgmbjmfjdjaaGreatDoorJRefTreeUpEtc
import Derived.Test.YtaabgmbjmfjdjaaGreatDoorJPackedUpEtc
import Derived.BigQuiet
import Derived.Test.YtaabgmbjmfjdjaaGreatDoorJErrors
import Derived.Test.YtaabgmbjmfjdjaaGreatDoorJRowedEtc
import Derived.Test.YtaabgmbjmfjdjaaGreatDoorJPlainly
namespace Go.Proofs.YtaabgmbjmfjdjaaGreatDoor
open Go Go.RowKit
set_option maxHeartbeats 4000000
set_option maxRecDepth 100000
theorem kn_int (cs:Array Value):¬NetRow (.cells cs 3 (0,0)):=by
 rintro (⟨es,c,h⟩|⟨c,fz,h⟩)
 ·cases h
 ·injection h with _ h3 _;exact absurd h3 (by decide)
theorem kn_file (cs:Array Value):¬NetRow (.cells cs 170 (0,0)):=by
 rintro (⟨es,c,h⟩|⟨c,fz,h⟩)
 ·cases h
 ·injection h with _ h3 _;exact absurd h3 (by decide)
theorem kh_str (cs:Array Value):¬HeldRow (.cells cs 9 (0,0)):=by
 rintro (⟨_,_,h⟩|⟨_,_,h⟩)
 ·cases h
 ·injection h with _ h _;exact absurd h (by decide)
theorem HeldIs.apartN {w w':World} {B B2 b c:Nat} {h:HeldB} (hi:HeldIs w B b h) (hk:KeepsU 4 c NetRow B2 w w') (hd:c+2≤b):HeldIs w' B b h:=by
 obtain ⟨h0,ov,mb,f,hA⟩:=hi;have hl:=hA.hlt;have h1:=(Array.getElem?_eq_some_iff.1 hA.blk).1;exact ⟨h0,ov,mb,f,{hb:=hA.hb,hm:=hA.hm,hlt:=hA.hlt,blk:=(hk.span b h1 (by omega)).trans hA.blk,order:=hk.toKeeps.owns hA.order kn_int,map:=hA.map.keep (hk.span mb hA.map.lt (by omega)),vals:=fun n=>(hA.vals n).keeps hk.toKeeps kn_file}⟩
theorem NetIs.apartH {w w':World} {B B2 b c t:Nat} {n:NetB} (h:NetIs w B b n t) (hk:KeepsU 2 c HeldRow B2 w w') (hd:b+2≤c):NetIs w' B b n t:=by
 obtain ⟨h0,bt,bo,bc,mo,mc,fo,hA⟩:=h;have e1:=hA.et;have e2:=hA.eo;have e3:=hA.ec;exact ⟨h0,bt,bo,bc,mo,mc,fo,{hA with
  blk:=(hk.span b (Array.getElem?_eq_some_iff.1 hA.blk).1 (by omega)).trans hA.blk
  texts:=hA.texts.keep (hk.span bt hA.texts.lt (by omega))
  offs:=hA.offs.keep (hk.span bo hA.offs.lt (by omega))
  cuts:=hA.cuts.keep (hk.span bc hA.cuts.lt (by omega))}⟩
theorem NetIs.lt {w:World} {B b t:Nat} {n:NetB} (h:NetIs w B b n t):b<w.heap.size:=by
 obtain ⟨_,_,_,_,_,_,_,hA⟩:=h;exact (Array.getElem?_eq_some_iff.1 hA.blk).1
theorem HeldIs.le {w:World} {B b:Nat} {h:HeldB} (hi:HeldIs w B b h):B+1≤b:=by
 obtain ⟨_,_,_,_,hA⟩:=hi;have:=hA.hm;have:=hA.hlt;omega
theorem cell_net {w w':World} {B B2 b t c o:Nat} {n:NetB} {x:ByteArray} (hn:NetIs w B b n t) (hk:KeepsU 4 b NetRow B2 w w') (h:w.cell? ⟨c,o,none⟩=some (.string x)):w'.cell? ⟨c,o,none⟩=some (.string x):=by
 obtain ⟨_,bt,bo,bc,mo,mc,fo,hA⟩:=hn;rw [←h];refine World.cell?_of_block (w:=w) ?_;show w'.heap[c]? =w.heap[c]?;by_cases hs:b<c∨c+4≤b
 ·exact hk.span c (World.block_lt_of_cell? w ⟨c,o,none⟩ h) hs
 ·exfalso;have hm:∀(R:Value→Option (DataW Unit×List MemPlace)) (m:Nat) (f:ByteArray→Option (DataW Unit)),MapIs R w c m f→False:=fun R m f hc=>by
   obtain ⟨es,cl,he⟩:=hc.isMap;simp [World.cell?,he] at h
  have e1:=hA.et;have e2:=hA.eo;have e3:=hA.ec;have:c=b∨c=bt∨c=bo∨c=bc:=by omega
  rcases this with rfl|rfl|rfl|rfl
  ·rw [Lib.cell_of_heap hA.blk] at h
   match o with
   |0=>simp at h
   |1=>simp at h
   |2=>simp at h
   |3=>simp at h
   |o+4=>simp at h
  ·exact hm _ _ _ hA.texts
  ·exact hm _ _ _ hA.offs
  ·exact hm _ _ _ hA.cuts
def FtEnv (E:Nat→Addr) (w:World):Prop:=REnv E w∧LEnv E w
theorem FtEnv.ext {E:Nat→Addr} {w w':World} (h:FtEnv E w) (hb:Below w.heap.size w w'):FtEnv E w':=⟨h.1.ext hb,h.2.ext hb⟩
theorem FtEnv.env {E:Nat→Addr} {w:World} (h:FtEnv E w):Env E w:=h.1.1.1.1
theorem FtEnv.net {E:Nat→Addr} {w:World} (h:FtEnv E w):NEnv E w:=⟨h.1.1.1.1,h.2⟩
structure AskW (x:WantB):Prop where
 name:x.name.size≤30000
 url:x.url.size≤120
theorem WBox.keep {K:Obj→Prop} {B:Nat} {w w':World} {p:Nat} {x:WantB} (h:WBox w p x) (hk:Keeps K B w w') (h1:∀cs,¬K (.cells cs 134 (0,0))):WBox w' p x:=hk.keep p _ h (h1 _)
theorem kn_want (cs:Array Value):¬NetRow (.cells cs 134 (0,0)):=by
 rintro (⟨es,c,h⟩|⟨c,fz,h⟩)
 ·cases h
 ·injection h with _ h3 _;exact absurd h3 (by decide)
def AskPost (E:Nat→Addr) (l:List RuleL) (x:WantB) (w:World) (e:Ending) (w':World):Prop:=
 (∃ev,e=.returned ev∧Hid (IsErr E w' ev (askE l x)))∧Below w.heap.size w w'
theorem errV_is {E:Nat→Addr} {w:World} {c:Nat} (h:c≤13):IsErr E w (errV E c) ⟨c,none⟩:=by
 cases c with
 |zero=>exact .inl ⟨rfl,rfl⟩
 |succ c=>exact .inr (.inl ⟨c,by omega,rfl,rfl⟩)
theorem fetchRight_any {E:Nat→Addr} (v:Value) (l:List RuleB) (x:WantB) (w:World) (hl:l.length≤1000) (hs:∀r∈l,Small r) (hx:AskW x) (hv:RulesRow w v l) (hE:FtEnv E w):
  Calls Tryz.prog 163 #[v,.agg #[.string x.name,.string x.url,.string x.kind,.int .i64 x.strip,.int .i64 x.sum]] w (AskPost E (l.map ruleOf) x w):=by
 obtain ⟨px,hpx⟩:∃px,w.heap.size=px:=⟨_,rfl⟩;obtain ⟨wx,hwx⟩:∃wx,w.alloc (.cells #[.string x.name,.string x.url,.string x.kind,.int .i64 x.strip,.int .i64 x.sum] 134)=wx:=⟨_,rfl⟩;have hbx:Below w.heap.size w wx:=by rw [←hwx];exact (Below.refl _ _).alloc (Nat.le_refl _) _
 have BX:=Lib.hid (show WBox wx px x by rw [←hwx,←hpx];exact WBox.new w x);have HB:=Lib.hid hbx;have HE:=Lib.hid (hE.ext hbx);have HWX:=Lib.hid hwx;have HPX:=Lib.hid hpx;have HX:=Lib.hid hx;have C:=Lib.hid (mirrorCheck_any v l wx hl (fun r hr=>(hs r hr).fair) (hv.ext hbx) (hE.ext hbx).2);clear hpx hwx hbx hE hv hx;go_enter Tryz.func163,Tryz.ntmps163;go_upto_region 1 with fail
 rw [HWX.out,HPX.out];go_wp2_with fail;refine C.out.mono ?_;clear C;intro e w1 hpost;unfold CheckPost at hpost;obtain ⟨⟨ev,rfl,HV⟩,hb1⟩:=hpost;have B1:=Lib.hid (HB.out.trans (hb1.mono HB.out.size));by_cases h0:(rulesEr (l.map ruleOf)).code=0
 ·obtain rfl:ev=.nilIface:=HV.out.zero h0;have HA:=Lib.hid (askE_from (w:=x) h0);obtain ⟨c0,c1,c2,c3,c4⟩:=(BX.out.ext hb1).cells;have C:=Lib.hid (wantCheck_any x w1 (by have:=HX.out.name;omega) (by have:=HX.out.url;omega) (HE.out.ext hb1).1.1.1);clear h0 HV;go_wp2_with fail;refine C.out.mono ?_;clear C;rintro e w2 ⟨rfl,hb2⟩;go_wp2_with fail;go_ret;exact ⟨⟨_,rfl,by rw [HA.out];exact errV_is (wantE_le x)⟩,B1.out.trans (hb2.mono B1.out.size)⟩
 ·have HA:=Lib.hid (askE_no (w:=x) h0);obtain ⟨ty,y,rfl⟩:=HV.out.some_inv h0;clear h0;go_wp2_with fail;go_ret;exact ⟨⟨_,rfl,by rw [HA.out];exact HV⟩,B1.out⟩
def OnePost (E:Nat→Addr) (B b t:Nat) (r:Nat×List FileB×NetB) (w:World) (e:Ending) (w':World):Prop:=
 ∃v,e=.returned (.tuple #[v,errV E r.1])∧Hid (FGot w' w.heap.size r.1 v r.2.1)∧NetIs w' B b r.2.2 (t+1)∧KeepsU 4 b NetRow B w w'
theorem fetchOne_any {E:Nat→Addr} (B b t:Nat) (n:NetB) (u:ByteArray) (x:WantB) (w:World) (h:NetIs w B b n t) (ht:t<1000000000) (hu:u.size≤100000) (hx:AskW x) (hBw:B≤w.heap.size) (hEB:∀W,Below B w W→FtEnv E W) (hG:∀k,k<13→gE k<B):
  Calls Tryz.prog 207 #[.pointer (some ⟨b,0,none⟩),.string u,.agg #[.string x.name,.string x.url,.string x.kind,.int .i64 x.strip,.int .i64 x.sum]] w (OnePost E B b t (wayB n u x) w):=by
 obtain ⟨px,hpx⟩:∃px,w.heap.size=px:=⟨_,rfl⟩;obtain ⟨wx,hwx⟩:∃wx,w.alloc (.cells #[.string x.name,.string x.url,.string x.kind,.int .i64 x.strip,.int .i64 x.sum] 134)=wx:=⟨_,rfl⟩;have hbx:Below w.heap.size w wx:=by rw [←hwx];exact (Below.refl _ _).alloc (Nat.le_refl _) _
 have BX:=Lib.hid (show WBox wx px x by rw [←hwx,←hpx];exact WBox.new w x);have KX:KeepsU 4 b NetRow B w wx:=KeepsU.of hbx hBw;have HKX:=Lib.hid KX;have HEB:=Lib.hid hEB;have HWX:=Lib.hid hwx;have HPX:=Lib.hid hpx;have HX:=Lib.hid hx;have HOK:=Lib.hid h.1;have hBx:B≤wx.heap.size:=Nat.le_trans hBw hbx.size;have C:=netGet_any B b t n u wx (h.below hbx) ht hu hBx (hEB wx KX.below).net hG;have hle:=getN_le n u;have hlen:=getN_len (u:=u) h.1;have hw:wayB n u x=if (getN n u).2.1≠0 then ((getN n u).2.1,[],(getN n u).2.2) else ((rightW x ⟨(getN n u).1.toArray⟩).1,(rightW x ⟨(getN n u).1.toArray⟩).2,(getN n u).2.2):=rfl
 obtain ⟨r,hr⟩:∃r,wayB n u x=r:=⟨_,rfl⟩;rw [hr] at hw⊢;obtain ⟨g,hg⟩:∃g,getN n u=g:=⟨_,rfl⟩;rw [hg] at hw C hle hlen;obtain ⟨s,c,n'⟩:=g;unfold GetPost at C;dsimp only at hw C hle hlen;have HW:=Lib.hid hw;have HC:=Lib.hid C;clear C hpx hwx hbx hEB hx hr hg hw h KX hG
 cases c with
 |succ c=>
  have HR:Hid (r=(c+1,[],n')):=by show _=_;rw [HW.out,if_pos (by omega)]
  rw [show errV E (c+1)=sentV E c from rfl] at HC;clear HW hle hlen;go_enter Tryz.func207,Tryz.ntmps207;go_upto_region 1 with fail
  rw [HWX.out,HPX.out];go_wp2_with fail;refine HC.out.mono ?_;clear HC;rintro e w1 ⟨z,rfl,HZ,HN,HK⟩;go_wp2_with fail;go_ret2;rw [HR.out];exact ⟨_,rfl,FGot.bad (FArg.nil _) (Nat.succ_ne_zero _),HN,HKX.out.trans HK⟩
 |zero=>
  have HR:Hid (r=((rightW x ⟨s.toArray⟩).1,(rightW x ⟨s.toArray⟩).2,n')):=by show _=_;rw [HW.out,if_neg (by omega)]
  rw [show errV E 0=.nilIface from rfl] at HC;have hlen2:=hlen;clear HW hle;go_enter Tryz.func207,Tryz.ntmps207;go_upto_region 1 with fail
  rw [HWX.out,HPX.out];go_wp2_with fail;refine HC.out.mono ?_;clear HC;rintro e w1 ⟨z,rfl,HZ,HN,HK⟩;have BX1:=BX.out.keep HK.toKeeps kn_want;obtain ⟨c0,c1,c2,c3,c4⟩:=BX1.cells;obtain rfl:z=⟨s.toArray⟩:=bl_eq (by rw [HZ.out];rfl);have HK1:=Lib.hid (HKX.out.trans HK);have C:=Lib.hid (wantRight_any x ⟨s.toArray⟩ w1 HX.out.name (by have:=HX.out.url;omega) (by rw [←bl_length];show s.length≤_;omega) (HEB.out w1 HK1.out.below).1);have HN1:=Lib.hid HN;clear HZ HN HK BX1 hlen hlen2;go_wp2_with fail;refine C.out.mono ?_;clear C;intro e w2 hpost;unfold WOpenPost at hpost;obtain ⟨⟨v,rfl,HV⟩,hb2⟩:=hpost;go_wp2_with fail;go_ret2;rw [HR.out];exact ⟨v,rfl,HV.out.low HK1.out.below.size,HN1.out.below hb2,HK1.out.trans (KeepsU.of hb2 (Nat.le_trans hBw HK1.out.below.size))⟩
theorem Tryz.methodError (v:Value) (w:World):(Go.method 444 298 v "Error").run Tryz.prog w=.ok (315,v) w:=by kernel_rfl
theorem errTx_lenB:((List.range 14).all fun c=>decide ((errTx c).length≤20))=true:=by decide
theorem errTx_len (c:Nat) (h:c≤13):(errTx c).length≤20:=of_decide_eq_true (List.all_eq_true.1 errTx_lenB c (List.mem_range.2 (by omega)))
theorem spot_of {w:World} {a:Addr} {v:Value} (h:w.cell? a=some v):a=⟨a.block,a.off,none⟩:=by
 have:=World.cell?_spot h;obtain ⟨b,o,s⟩:=a;subst this;rfl
theorem errError_any {E:Nat→Addr} {w:World} (hE:Env E w) (k:Nat) (hk:k<13):
  Calls Tryz.prog 315 #[.pointer (some (E k))] w fun e w'=>(∃s:ByteArray,e=.returned (.string s)∧Hid (bl s=errTx (k+1))∧s.size≤20)∧w=w':=by
 obtain ⟨s,h1,h2⟩:=hE.txt k hk;have hsz:s.size≤20:=by
  rw [←bl_length,show bl s=errTx (k+1) from h2];exact errTx_len (k+1) (by omega)
 have HT:Hid (bl s=errTx (k+1)):=h2;obtain ⟨a,ha⟩:∃a,E k=a:=⟨_,rfl⟩;rw [ha] at h1⊢;have hs:=spot_of h1;obtain ⟨b,o,sp⟩:=a;obtain rfl:sp=none:=by injection hs
 clear h2 ha hs hE;have h3:w.cell? ⟨b,o+0,none⟩=some (.string s):=h1;go_enter Tryz.func315,Tryz.ntmps315;go_wp2_with fail;go_ret;exact ⟨⟨s,rfl,HT,hsz⟩,rfl⟩
def TOwn (w:World) (base:Nat) (v:Value) (zs:List ByteArray):Prop:=w.ownsRow base 9 1 v zs.length (zs.map Value.string)
def LRow (o:Obj):Prop:=∃cs fz,o=.cells cs 9 fz
theorem kl_map (es:Array MapEntry) (c:Nat):¬LRow (.map es c):=fun ⟨_,_,h⟩=>by cases h
theorem kl_net (cs:Array Value) (fz:Nat×Nat):¬LRow (.cells cs 55 fz):=fun ⟨_,_,h⟩=>by injection h with _ h3 _;exact absurd h3 (by decide)
theorem kl_want (cs:Array Value):¬LRow (.cells cs 134 (0,0)):=fun ⟨_,_,h⟩=>by injection h with _ h3 _;exact absurd h3 (by decide)
theorem kl_file (cs:Array Value):¬LRow (.cells cs 170 (0,0)):=fun ⟨_,_,h⟩=>by injection h with _ h3 _;exact absurd h3 (by decide)
theorem kn_str (cs:Array Value):¬NetRow (.cells cs 9 (0,0)):=notN_str cs
theorem TOwn.nil (w:World) (base:Nat):TOwn w base (.slice none 0 0) []:=World.ownsRow_nil _ _ _ _
theorem TOwn.ext {w w':World} {base:Nat} {v:Value} {zs:List ByteArray} (h:TOwn w base v zs) (hb:Below w.heap.size w w'):TOwn w' base v zs:=owns_below h hb
theorem TOwn.low {w:World} {base B:Nat} {v:Value} {zs:List ByteArray} (h:TOwn w base v zs) (hB:B≤base):TOwn w B v zs:=ownsRow_low h hB
theorem TOwn.keeps {K:Obj→Prop} {w w':World} {base B:Nat} {v:Value} {zs:List ByteArray} (h:TOwn w base v zs) (hk:Keeps K B w w') (h1:∀cs,¬K (.cells cs 9 (0,0))):TOwn w' base v zs:=hk.owns h h1
theorem TOwn.row {w:World} {base:Nat} {v:Value} {zs:List ByteArray} (h:TOwn w base v zs):Row encStr 1 w v zs:=row_of_own h
theorem TOwn.shape {w:World} {base:Nat} {v:Value} {zs:List ByteArray} (h:TOwn w base v zs):∃ao cap,v=.slice ao zs.length cap:=by
 rcases h.2 with ⟨rfl,h0⟩|⟨g,cap,cur,rfl,_⟩
 ·exact ⟨none,0,by rw [h0]⟩
 ·exact ⟨_,_,rfl⟩
theorem KeepsU.fresh {n b:Nat} {K:Obj→Prop} {B:Nat} {w a c:World} (h:KeepsU n b K B w a) (hb:Below w.heap.size a c) (hB:B≤w.heap.size):KeepsU n b K B w c:=
 ⟨h.toKeeps.fresh hb hB,fun k hk hs=>(hb.block k hk).trans (h.span k hk hs)⟩
def WaysAt (w:World) (c off:Nat) (xs:List ByteArray):Prop:=∀i,(hi:i<xs.length)→w.cell? ⟨c,off+i,none⟩=some (.string xs[i])
def TryPost (E:Nat→Addr) (B b t:Nat) (r:Er×List FileB×List (List UInt8)×NetB) (w:World) (e:Ending) (w':World):Prop:=
 ∃fv lv ev zs,e=.returned (.tuple #[fv,lv,ev])∧Hid (IsErr E w' ev r.1)∧Hid (FOwn w' w.heap.size fv r.2.1)∧Hid (TOwn w' w.heap.size lv zs)∧Hid (zs.map bl=r.2.2.1∧zs.length≤20)∧Hid (NetIs w' B b r.2.2.2 (t+20))∧Hid (KeepsU 4 b NetRow B w w')
theorem app_bl (u s:ByteArray) (l:List UInt8):bl ((u++({data:=l.toArray}:ByteArray))++s)=bl u++(l++bl s):=by
 rw [bl_append,bl_append,List.append_assoc];rfl
theorem fetchTry_any {E:Nat→Addr} (B b t:Nat) (n:NetB) (v:Value) (l:List RuleB) (x:WantB) (w:World) (h:NetIs w B b n t) (ht:t+20<1000000000) (hl:l.length≤1000) (hs:∀r∈l,Small r) (hx:AskW x) (hv:RulesRow w v l) (hBw:B≤w.heap.size) (hEB:∀W,Below B w W→FtEnv E W) (hG:∀k,k<13→gE k<B):
  Calls Tryz.prog 164 #[.pointer (some ⟨b,0,none⟩),v,.agg #[.string x.name,.string x.url,.string x.kind,.int .i64 x.strip,.int .i64 x.sum]] w (TryPost E B b t (tryF n (l.map ruleOf) x) w):=by
 obtain ⟨i0,hi0,hz0,hz1,hz2⟩:=info_parts Tryz.infoW;obtain ⟨px,hpx⟩:∃px,w.heap.size=px:=⟨_,rfl⟩;obtain ⟨wx,hwx⟩:∃wx,w.alloc (.cells #[.string x.name,.string x.url,.string x.kind,.int .i64 x.strip,.int .i64 x.sum] 134)=wx:=⟨_,rfl⟩;have hbx:Below w.heap.size w wx:=by rw [←hwx];exact (Below.refl _ _).alloc (Nat.le_refl _) _
 have BX:=Lib.hid (show WBox wx px x by rw [←hwx,←hpx];exact WBox.new w x);have HB:=Lib.hid hbx;have HEB:=Lib.hid hEB;have HWX:=Lib.hid hwx;have HPX:=Lib.hid hpx;have HX:=Lib.hid hx;have HG:=Lib.hid hG;have HS:=Lib.hid hs;have HV0:=Lib.hid (hv.ext hbx);have HN0:=Lib.hid (h.below hbx);have KX:KeepsU 4 b NetRow B w wx:=KeepsU.of hbx hBw;have C:=Lib.hid (fetchRight_any v l x wx hl hs hx (hv.ext hbx) (hEB wx KX.below));obtain ⟨c0,c1,c2,c3,c4⟩:=BX.out.cells;have KX0:=Lib.hid KX;clear hpx hwx hbx hEB hx hv h hG hs KX;go_enter Tryz.func164,Tryz.ntmps164;go_upto_region 1 with fail
 rw [HWX.out,HPX.out];go_wp2_with fail;refine C.out.mono ?_;clear C c0 c1 c2 c3 c4;intro e w1 hpost;unfold AskPost at hpost;obtain ⟨⟨ev,rfl,HV⟩,hb1⟩:=hpost;have B1:=Lib.hid (HB.out.trans (hb1.mono HB.out.size));have K1:=Lib.hid (KX0.out.trans (KeepsU.of hb1 (Nat.le_trans hBw HB.out.size)));by_cases h0:(askE (l.map ruleOf) x).code=0;rotate_left
 ·have HA:=Lib.hid (tryF_ask (n:=n) h0);obtain ⟨ty,y,rfl⟩:=HV.out.some_inv h0;have HN1:=Lib.hid ((HN0.out.below hb1).later (Nat.le_add_right t 20));clear h0;go_wp2_with fail;go_ret3;rw [HA.out];exact ⟨_,_,_,[],rfl,HV,FOwn.nil _ _,TOwn.nil _ _,⟨rfl,Nat.zero_le _⟩,HN1,K1⟩
 obtain rfl:ev=.nilIface:=HV.out.zero h0;have HA:=Lib.hid (tryF_from (n:=n) h0);have hok:=askE_want h0;have hr0:=(askE_zero h0).1;have hwe:waysEr (l.map ruleOf) (bl x.url)=⟨0,none⟩:=by unfold waysEr;rw [if_pos hr0,hok.url]
 have HSH:=Lib.hid (waysOut_short (l:=l.map ruleOf) hok.url);have HNE:=Lib.hid (waysOut_ne (l.map ruleOf) (bl x.url));have BX1:=Lib.hid (BX.out.ext hb1);have HN1:=Lib.hid (HN0.out.below hb1);have C:=ways_any v l x.url w1 hl HS.out HX.out.url (HV0.out.ext hb1) (HEB.out w1 K1.out.below).2;unfold WaysPost at C;rw [hwe] at C;have HC:=Lib.hid C;obtain ⟨c0,c1,c2,c3,c4⟩:=BX1.out.cells;clear C hb1 h0 hok hr0 hwe HV HN0 HV0 BX;go_wp2_with fail;refine HC.out.mono ?_;clear HC c0 c1 c2 c3 c4;rintro e w2 ⟨⟨ov,ev,xs,rfl,HV,HR,HM,hxl⟩,hb2⟩;obtain rfl:ev=.nilIface:=HV.out.zero rfl;have HMX:Hid (xs.map bl=waysOut (l.map ruleOf) (bl x.url)):=HM.out.trans (if_pos trivial);have B2:=Lib.hid (B1.out.trans (hb2.mono B1.out.size));have K2:=Lib.hid (K1.out.fresh (hb2.mono B1.out.size) hBw);have BX2:=Lib.hid (BX1.out.ext hb2);have HN2:=Lib.hid (HN1.out.below hb2);have hxne:xs≠[]:=fun e0=>HNE.out (by rw [←HMX.out,e0];rfl)
 rcases HR.out.one with ⟨_,e0⟩|⟨c,off,cap,rfl,h1,h2,h3,h4⟩
 ·exact absurd e0 hxne
 have HWA:Hid (WaysAt w2 c off xs):=h4;obtain ⟨D,hD⟩:∃D,w2.heap.size=D:=⟨_,rfl⟩;rw [hD] at h3;have hwD:w.heap.size≤D:=by rw [←hD];exact B2.out.size
 have HU:Hid (∀i,(hi:i<xs.length)→xs[i].size≤200):=fun i hi=>by
  rw [←bl_length];exact HSH.out _ (by rw [←HMX.out];exact List.mem_map.2 ⟨_,List.getElem_mem hi,rfl⟩)
 have hD2:D≤w2.heap.size:=Nat.le_of_eq hD.symm;obtain ⟨m,hm⟩:∃m,xs.length=m:=⟨_,rfl⟩;have HMM:=Lib.hid hm;have HAX:Hid (tryF n (l.map ruleOf) x=(⟨(tryGo x n (xs.map bl) [] 0).1,none⟩,(tryGo x n (xs.map bl) [] 0).2)):=by show _=_;rw [HMX.out];exact HA.out
 rw [hm] at h1 hxl⊢;clear hb2 HV HR HM hxne HMX HNE HSH h4 hD hm HA B1 K1 BX1 HN1;go_wp2_with fail
 go_loopg [11,12,34] m (fun g1 ev lv vi wr=>∃(k last:Nat) (nk:NetB) (zs:List ByteArray),vi=.int .i64 k∧k≤m∧m-k≤g1∧zs.length=k∧last≤13∧ev=errV E last∧D≤wr.heap.size∧Hid (tryGo x n (xs.map bl) [] 0=tryGo x nk ((xs.map bl).drop k) (zs.map bl) last)∧Hid (NetIs wr B b nk (t+k))∧Hid (TOwn wr D lv zs)∧Hid (WaysAt wr c off xs)∧Hid (WBox wr px x)∧Hid (KeepsU 4 b NetRow B w wr))
 case atStart=>exact ⟨0,0,n,[],rfl,Nat.zero_le _,by omega,rfl,Nat.zero_le _,rfl,hD2,rfl,HN2,TOwn.nil _ _,HWA,BX2,K2⟩
 case round=>
  clear HN2 HWA BX2 K2 hD2;obtain ⟨k,last,nk,zs,rfl,hk,hg,hzl,hla,rfl,hDr,HT,HN,HO,HWA,BX,K⟩:=hrel;obtain ⟨lo,lc,hlv⟩:=HO.out.shape;rw [hzl] at hlv;subst hlv;by_cases hlt:k<m
  ·have hkx:k<xs.length:=by rw [HMM.out];exact hlt
   have q0:=HWA.out k hkx;have HDR:=Lib.hid (drop_bl xs k hkx);have hus:=HU.out k hkx;obtain ⟨u,hu⟩:∃u,xs[k]=u:=⟨_,rfl⟩;rw [hu] at q0 HDR hus;obtain ⟨c0,c1,c2,c3,c4⟩:=BX.out.cells;have hBr:B≤wr.heap.size:=Nat.le_trans hBw (Nat.le_trans hwD hDr);have C:=fetchOne_any B b (t+k) nk u x wr HN.out (by omega) (by omega) HX.out hBr (fun W hW=>HEB.out W (K.out.below.trans hW)) HG.out;have HTO:=Lib.hid (fun he=>(tryGo_ok (w:=x) (n:=nk) (u:=bl u) (us:=(xs.map bl).drop (k+1)) (lines:=zs.map bl) (last:=last) he));have HTN:=Lib.hid (fun he=>(tryGo_no (w:=x) (n:=nk) (u:=bl u) (us:=(xs.map bl).drop (k+1)) (lines:=zs.map bl) (last:=last) he));have HT2:Hid (tryGo x n (xs.map bl) [] 0=tryGo x nk (bl u::(xs.map bl).drop (k+1)) (zs.map bl) last):=by show _=_;rw [HT.out,HDR.out]
   have hle:=wayOne_le nk (bl u) x (fun s=>rightW_le x s);rw [wayOne_bl] at HTO HTN hle;obtain ⟨r,hr⟩:∃r,wayB nk u x=r:=⟨_,rfl⟩;rw [hr] at C HTO HTN hle;obtain ⟨rc,rf,rn⟩:=r;unfold OnePost at C;dsimp only at C HTO HTN hle;have HC:=Lib.hid C;clear C hu hr HDR HT
   cases rc with
   |zero=>
    have HF:=Lib.hid (HT2.out.trans (HTO.out rfl));rw [show errV E 0=.nilIface from rfl] at HC;clear HTO HTN HT2 hle;go_wp2_with fail;refine HC.out.mono ?_;clear HC;rintro e w5 ⟨v5,rfl,HG5,HN5,HK5⟩;have HN5h:=Lib.hid HN5;have HFO:=Lib.hid (FOwn.low (HG5.out.2.2 rfl) (Nat.le_trans hwD hDr));have hD5:D≤w5.heap.size:=Nat.le_trans hDr HK5.below.size;have K5:=Lib.hid (K.out.trans HK5);have hO5:w5.ownsRow D 9 1 _ zs.length (zs.map Value.string):=HO.out.keeps HK5.toKeeps kn_str;rw [hzl] at hO5;have HO5:=Lib.hid hO5;clear hO5;clear HN5 HK5 q0 c0 c1 c2 c3 c4 HG5;go_wp2_with (at_builtin;refine wpList_append_own _ rfl _ _ 22 rfl D 9 i0 (.string ⟨#[]⟩) 1 16 Tryz.underlying22 hi0 hz0 hz1 hz2 rfl (by decide) _ _ _ rfl (World.ownsRow.alloc HO5.out _) ⟨w5.heap.size,0,none⟩ 1 1 [.string (u++⟨#[32,111,107]⟩)] rfl rfl ?c1 ?c2 ?c3 ?c4 ?c5 ?_)
    case c1=>
     intro j u hj
     match j,hj with
     |0,hj=>simp at hj;subst hj;simp [Addr.add]
    case c2=>intro u hu;simp at hu;subst hu;rfl
    case c3=>rw [maxLen_eq];omega
    case c4=>omega
    case c5=>simp;omega
    intro v6 w6 hown6 hgrow6 _;have hal:Below w5.heap.size w5 (w5.alloc (.cells #[.string (u++⟨#[32,111,107]⟩)] 9)):=(Below.refl _ _).alloc (Nat.le_refl _) _;have hK6:Keeps LRow D w5 w6:=(Keeps.of hal hD5).trans (keeps_grown (World.ownsRow.alloc HO5.out _) hgrow6 (Nat.le_trans hD5 hal.size) (fun cs=>⟨_,_,rfl⟩));have HN6:=Lib.hid ((HN5h.out.keeps hK6 kl_map kl_net).later (show t+k+1≤t+20 by omega));have HO6:Hid (TOwn w6 w.heap.size v6 (zs++[u++⟨#[32,111,107]⟩])):=TOwn.low (base:=D) (by show w6.ownsRow _ _ _ _ _ _;rw [List.length_append,hzl,List.map_append];exact hown6) hwD;have HF6:=Lib.hid (hK6.owns HFO.out kl_file);have K6:=Lib.hid (K5.out.fresh (hK6.below.mono hwD) hBw);clear hown6 hgrow6 hK6 hal;go_wp2_with fail;go_ret3;rw [HAX.out,HF.out];exact ⟨_,_,_,_,rfl,.inl ⟨rfl,rfl⟩,HF6,HO6,⟨by rw [List.map_append];show _++[bl _]=_;rw [bl_append];rfl,by rw [List.length_append];simp;omega⟩,HN6,K6⟩
   |succ rc=>
    have HF:=Lib.hid (HT2.out.trans (HTN.out (Nat.succ_ne_zero _)));rw [show errV E (rc+1)=sentV E rc from rfl] at HC;clear HTO HTN HT2;go_wp2_with fail;refine HC.out.mono ?_;clear HC;rintro e w5 ⟨v5,rfl,HG5,HN5,HK5⟩;have hWA5:WaysAt w5 c off xs:=fun i hi=>cell_net HN.out HK5 (HWA.out i hi)
    have HWA5:=Lib.hid hWA5;have BX5:=Lib.hid (BX.out.keep HK5.toKeeps kn_want);have HN5h:=Lib.hid HN5;have hD5:D≤w5.heap.size:=Nat.le_trans hDr HK5.below.size;have K5:=Lib.hid (K.out.trans HK5);have hO5:w5.ownsRow D 9 1 _ zs.length (zs.map Value.string):=HO.out.keeps HK5.toKeeps kn_str;rw [hzl] at hO5;have HO5:=Lib.hid hO5;clear hO5;have HE5:=Lib.hid (HEB.out w5 K5.out.below).env;clear HN5 HK5 q0 c0 c1 c2 c3 c4 HG5 hWA5 HWA BX HN HO;go_wp2_with fail;refine (treeBare_any ⟨rc+1,none⟩ (sentV E rc) w5 (IsErr.base E w5 rc (by omega))).mono ?_;rintro e w6 ⟨⟨uv,rfl,HU2⟩,rfl⟩;obtain rfl:=HU2.out.none_inv;rw [show errV E (rc+1)=sentV E rc from rfl];have hme:=Tryz.methodError;go_wp2_with fail;refine (errError_any HE5.out rc (by omega)).mono ?_;rintro e w6 ⟨⟨s,rfl,HSX,hsz⟩,rfl⟩;clear hme;go_wp2_with (at_builtin;refine wpList_append_own _ rfl _ _ 22 rfl D 9 i0 (.string ⟨#[]⟩) 1 16 Tryz.underlying22 hi0 hz0 hz1 hz2 rfl (by decide) _ _ _ rfl (World.ownsRow.alloc HO5.out _) ⟨w5.heap.size,0,none⟩ 1 1 [.string ((u++⟨#[32]⟩)++s)] rfl rfl ?d1 ?d2 ?d3 ?d4 ?d5 ?_)
    case d1=>
     intro j u hj
     match j,hj with
     |0,hj=>simp at hj;subst hj;simp [Addr.add]
    case d2=>intro u hu;simp at hu;subst hu;rfl
    case d3=>rw [maxLen_eq];omega
    case d4=>omega
    case d5=>simp;omega
    intro v6 w6 hown6 hgrow6 _;have hal:Below w5.heap.size w5 (w5.alloc (.cells #[.string ((u++⟨#[32]⟩)++s)] 9)):=(Below.refl _ _).alloc (Nat.le_refl _) _;have hK6:Keeps LRow D w5 w6:=(Keeps.of hal hD5).trans (keeps_grown (World.ownsRow.alloc HO5.out _) hgrow6 (Nat.le_trans hD5 hal.size) (fun cs=>⟨_,_,rfl⟩));have HN6:=Lib.hid (HN5h.out.keeps hK6 kl_map kl_net);have HO6:Hid (TOwn w6 D v6 (zs++[(u++⟨#[32]⟩)++s])):=by show w6.ownsRow _ _ _ _ _ _;rw [List.length_append,hzl,List.map_append];exact hown6
    have K6:=Lib.hid (K5.out.fresh (hK6.below.mono hwD) hBw);have BX6:=Lib.hid (BX5.out.keep hK6 kl_want);have HWA6:Hid (WaysAt w6 c off xs):=fun i hi=>(hK6.below.cell (p:=⟨c,off+i,none⟩) h3).trans (HWA5.out i hi)
    have hD6:D≤w6.heap.size:=Nat.le_trans hD5 hK6.below.size;have HT6:Hid (tryGo x n (xs.map bl) [] 0=tryGo x rn ((xs.map bl).drop (k+1)) ((zs++[(u++⟨#[32]⟩)++s]).map bl) (rc+1)):=by
     show _=_;rw [HF.out,List.map_append];show _=tryGo _ _ _ (_++[bl _]) _;rw [show bl ((u++⟨#[32]⟩)++s)=badLine (bl u) (rc+1) by rw [app_bl u s [32],HSX.out];rfl]
    clear hown6 hgrow6 hK6 hal HF;go_wp2_with fail;go_roundg (m- (k+1))
    case measure=>omega
    case rel=>exact ⟨k+1,rc+1,rn,_,by go_num,by omega,Nat.le_refl _,by rw [List.length_append,hzl];rfl,hle,rfl,hD6,HT6,HN6,HO6,HWA6,BX6,K6⟩
  ·obtain rfl:k=m:=by omega
   have HF:Hid (tryGo x n (xs.map bl) [] 0=(last,[],zs.map bl,nk)):=by
    show _=_;rw [HT.out,List.drop_of_length_le (by rw [List.length_map,HMM.out];exact Nat.le_refl _)];rfl
   have HN6:=Lib.hid (HN.out.later (show t+k≤t+20 by omega));have HO6:=Lib.hid (HO.out.low hwD);clear HT HN HO;go_wp2_with fail;go_ret3;rw [HAX.out,HF.out];exact ⟨_,_,_,_,rfl,errV_is hla,FOwn.nil _ _,HO6,⟨rfl,by omega⟩,HN6,K⟩
end Go.Proofs.YtaabgmbjmfjdjaaGreatDoor
