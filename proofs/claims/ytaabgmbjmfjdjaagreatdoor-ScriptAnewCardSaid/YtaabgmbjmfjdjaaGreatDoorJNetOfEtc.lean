import Derived.Test.YtaabgmbjmfjdjaaGreatDoorJStrMapEtc
import Derived.Test.YtaabgmbjmfjdjaaGreatDoorJRowedEtc
import Derived.Test.YtaabgmbjmfjdjaaGreatDoorJPlainly
import Derived.Test.YtaabgmbjmfjdjaaGreatDoorJRefLinkUp
import Derived.Test.YtaabgmbjmfjdjaaGreatDoorJPathedEtc
import Derived.Maps.AppendAt
import Derived.Laws.OwnMore
import Derived.Test.YtaabgmbjmfjdjaaGreatDoorJToldEtc
import Derived.Deep.RegionHeld3
import Derived.Deep.QuietTactic
import Derived.BigQuiet
namespace Go.Proofs.YtaabgmbjmfjdjaaGreatDoor
open Go Go.RowKit Go.Maps
set_option maxHeartbeats 1000000
set_option maxRecDepth 100000
theorem contains_bl (L:List ByteArray) (v:ByteArray):(L.map bl).contains (bl v)=true↔v∈L:=by
 rw [List.contains_iff_mem,List.mem_map];constructor
 ·rintro ⟨x,hx,he⟩;rwa [←bl_eq he]
 ·intro h;exact ⟨v,h,rfl⟩
theorem off_host (L:List ByteArray) (h v:ByteArray) (on:Bool):((L.filter (fun x=>x≠h)++(if on then [] else [h])).map bl).contains (bl v)=if v=h then !on else (L.map bl).contains (bl v):=by
 by_cases hv:v=h
 ·rw [if_pos hv,Bool.eq_iff_iff,contains_bl,List.mem_append,List.mem_filter];subst hv;cases on<;>simp
 ·rw [if_neg hv,Bool.eq_iff_iff,contains_bl,contains_bl,List.mem_append,List.mem_filter]
  cases on<;>simp [hv]
theorem netAt_host {w1 w2:World} {B b t bt bo bc mo mc k:Nat} {n:NetB} {fo:ByteArray→Option Bool} {D:DataW Unit} {u:ByteArray} {on:Bool} (h:NetAt w1 B b n t bt bo bc mo mc fo)
  (d1:w1.ownsMap Tryz.prog 9 RBool bo mo D) (d2:Maps.size D=mo) (d3:∀s,Maps.has D (.string (bl s))=((fo s).map fun x=>DataW.lit (H:=Unit) (.bool x)).isSome) (d4:∀s z,D.atKey (.string (bl s)) z=((fo s).map fun x=>DataW.lit (.bool x)).getD z)
  (o2:w2.ownsMap Tryz.prog 9 RBool bo k (D.put (.string (bl u)) (.lit (.bool (!on))))) (ht2:w1.mapTurned w2 bo):
  ∃bt bo bc mo mc fo,NetAt w2 B b {n with off:=n.off.filter (fun x=>x≠u)++(if on then [] else [u])} (t+1) bt bo bc mo mc fo:=by
 have m2:=MapIs.put (f:=fun s=>(fo s).map fun x=>DataW.lit (.bool x)) d1 d2 d3 d4 u _ o2;refine ⟨bt,bo,bc,if ((fo u).map fun x=>DataW.lit (H:=Unit) (.bool x)).isSome=true then mo else mo+1,mc,fun v=>if v=u then some (!on) else fo v,{h with hmo:=?_,hmc:=Nat.le_succ_of_le h.hmc,hcl:=Nat.le_succ_of_le h.hcl,blk:=blk_turned h.blk ht2,texts:=mapIs_turned h.texts ht2 h.d1,offs:=?_,off:=fun s=>?_,cuts:=mapIs_turned h.cuts ht2 (Ne.symm h.d3)}⟩
 ·have:=h.hmo;split<;>omega
 ·rw [show (fun s=>((fun v=>if v=u then some (!on) else fo v) s).map fun x=>DataW.lit (H:=Unit) (.bool x))=fun v=>if v=u then some (DataW.lit (.bool (!on))) else (fo v).map fun x=>DataW.lit (.bool x) by
   funext v;dsimp only;split<;>rfl]
  exact m2
 ·rw [off_host];split
  ·rfl
  ·exact h.off s
theorem netHost_any {E:Nat→Addr} (B b t:Nat) (n:NetB) (u:ByteArray) (on:Bool) (w:World) (h:NetIs w B b n t) (ht:t<1000000000) (hu:u.size≤100000) (hBw:B≤w.heap.size) (hE:NEnv E w):
  Calls Tryz.prog 76 #[.pointer (some ⟨b,0,none⟩),.string u,.bool on] w (NetPost E B b t (hostN n u on) w):=by
 have C:=Lib.hid (part_any u w (by omega));have HE:=Lib.hid hE;have HN:=Lib.hid h;clear hE h;go_enter Tryz.func76,Tryz.ntmps76;go_wp2_with fail;refine C.out.mono ?_;clear C;rintro e w1 ⟨rfl,hb⟩;obtain ⟨p,hp⟩:∃p,partB (bl u)=p:=⟨_,rfl⟩;rw [hp];have HN1:=Lib.hid (HN.out.below hb)
 cases p with
 |false=>
  have hr:hostN n u on=(5,n):=by unfold hostN;rw [hp];rfl
  have HR:=Lib.hid hr;have e1:w1.cell? ⟨4,0,none⟩=some (sentV E 4):=(HE.out.1.ext hb).err 4 (by decide);clear hr hp;go_wp2_with fail;go_ret;rw [HR.out];exact NetPost.same HN1.out hb hBw rfl
 |true=>
  have hr:hostN n u on=(0,{n with off:=n.off.filter (fun x=>x≠u)++(if on then [] else [u])}):=by unfold hostN;rw [hp];rfl
  have HR:=Lib.hid hr;have hrok:=hostN_ok (u:=u) (on:=on) HN1.out.1;rw [hr] at hrok;obtain ⟨hok,bt,bo,bc,mo,mc,fo,h1⟩:=HN1.out;have c1:w1.cell? ⟨b,1,none⟩=some (.map (some bo)):=by rw [Lib.cell_of_heap h1.blk];rfl
  obtain ⟨D,d1,d2,d3,d4⟩:=id h1.offs;have H1:=Lib.hid h1;have Hd:=Lib.hid d1;have hlt:mo<maxLen:=by have:=h1.hmo;unfold maxLen;omega
  have Hrok:=Lib.hid hrok;have Hde:=Lib.hid (And.intro d2 (And.intro d3 d4));have hkl:=keyLit u (by unfold maxLen;omega);clear h1 hr d1 d2 d3 d4 hok hrok hp;go_wp2_with (first
   |(at_mapUpdate;refine wpList_mapUpdate_in _ rfl _ _ _ 52 rfl 9 4 Tryz.strKeyed Tryz.underlying52 RBool bo mo D rfl Hd.out hlt _ _ _ rfl rfl hkl (.lit (.bool (!on))) [] (plainElem_bool Tryz.underlying4 _) ?_;intro w2 hown2 hturn2)
   |go_in)
  go_ret;refine ⟨by rw [HR.out];rfl,?_,(KeepsU.of hb hBw).trans (mapTurned_keeps hturn2 H1.out.ho (Nat.le_trans hBw hb.size) (by have:=H1.out.eo;omega))⟩;rw [HR.out];exact ⟨Hrok.out,netAt_host H1.out Hd.out Hde.out.1 Hde.out.2.1 Hde.out.2.2 hown2 hturn2⟩
theorem netAt_cut {w1 w2:World} {B b t bt bo bc mo mc k:Nat} {n:NetB} {fo:ByteArray→Option Bool} {D:DataW Unit} {u:ByteArray} {c:Int} (h:NetAt w1 B b n t bt bo bc mo mc fo) (hc:0≤c) (hs:(siteAt u n.sites).isSome=true)
  (d1:w1.ownsMap Tryz.prog 9 RInt bc mc D) (d2:Maps.size D=mc) (d3:∀s,Maps.has D (.string (bl s))=((cutAt s n.sites).map fun x=>DataW.lit (H:=Unit) (.int .i64 x)).isSome) (d4:∀s z,D.atKey (.string (bl s)) z=((cutAt s n.sites).map fun x=>DataW.lit (.int .i64 x)).getD z)
  (o2:w2.ownsMap Tryz.prog 9 RInt bc k (D.put (.string (bl u)) (.lit (.int .i64 c)))) (ht2:w1.mapTurned w2 bc):
  ∃bt bo bc mo mc fo,NetAt w2 B b {n with sites:=setCut u c n.sites} (t+1) bt bo bc mo mc fo:=by
 have m2:=MapIs.put (f:=fun s=>(cutAt s n.sites).map fun x=>DataW.lit (.int .i64 x)) d1 d2 d3 d4 u _ o2;have hlen:(setCut u c n.sites).length=n.sites.length:=by
  have:=congrArg List.length (setCut_map u c n.sites);simpa using this
 refine ⟨bt,bo,bc,mo,if ((cutAt u n.sites).map fun x=>DataW.lit (H:=Unit) (.int .i64 x)).isSome=true then mc else mc+1,fo,{h with hmo:=Nat.le_succ_of_le h.hmo,hmc:=?_,hcl:=Nat.le_succ_of_le h.hcl,blk:=blk_turned h.blk ht2,texts:=?_,offs:=mapIs_turned h.offs ht2 h.d3,cuts:=?_}⟩
 ·have:=h.hmc;split<;>omega
 ·have:=mapIs_turned h.texts ht2 h.d2;rw [show (fun s=>(textAt s (setCut u c n.sites)).map fun x=>DataW.lit (H:=Unit) (.string (bl x)))=fun s=>(textAt s n.sites).map fun x=>DataW.lit (.string (bl x)) by
   funext v;rw [textAt_cut]]
  show MapIs RStr w2 bt (setCut u c n.sites).length _;rw [hlen];exact this
 ·rw [show (fun s=>(cutAt s (setCut u c n.sites)).map fun x=>DataW.lit (H:=Unit) (.int .i64 x))=fun v=>if v=u then some (DataW.lit (.int .i64 c)) else (cutAt v n.sites).map fun x=>DataW.lit (.int .i64 x) by
   funext v;rw [cutAt_cut u v c hc n.sites hs];split<;>rfl]
  exact m2
theorem netCut_any {E:Nat→Addr} (B b t:Nat) (n:NetB) (u:ByteArray) (k:Int) (w:World) (h:NetIs w B b n t) (ht:t<1000000000) (hu:u.size≤100000) (hk: -9223372036854775808≤k∧k≤9223372036854775807) (hBw:B≤w.heap.size) (hE:NEnv E w):
  Calls Tryz.prog 78 #[.pointer (some ⟨b,0,none⟩),.string u,.int .i64 k] w (NetPost E B b t (cutN n u k) w):=by
 have HE:=Lib.hid hE;have HN1:=Lib.hid h;clear hE h;obtain ⟨hok,bt,bo,bc,mo,mc,fo,h1⟩:=HN1.out;have c0:w.cell? ⟨b,0,none⟩=some (.map (some bt)):=by rw [Lib.cell_of_heap h1.blk];rfl
 have c2:w.cell? ⟨b,2,none⟩=some (.map (some bc)):=by rw [Lib.cell_of_heap h1.blk];rfl
 have hl:=look_strs h1.texts u (by unfold maxLen;omega);rcases hx:siteAt u n.sites with _|x
 ·have hr:cutN n u k=(6,n):=by unfold cutN;rw [hx]
  have HR:=Lib.hid hr;have e1:w.cell? ⟨5,0,none⟩=some (sentV E 5):=HE.out.1.err 5 (by decide);rw [show textAt u n.sites=none by unfold textAt;rw [hx];rfl] at hl;simp only [Option.getD_none,Option.isSome_none] at hl;clear hr hx h1 hok;go_enter Tryz.func78,Tryz.ntmps78;go_wp2_with fail;go_ret;rw [HR.out];exact NetPost.same HN1.out (Below.refl _ _) hBw rfl
 ·rw [show textAt u n.sites=some x.text by unfold textAt;rw [hx];rfl] at hl;simp only [Option.getD_some,Option.isSome_some] at hl;by_cases hk0:k<0
  ·have hr:cutN n u k=(2,n):=by unfold cutN;rw [hx];simp only;rw [if_pos hk0]
   have HR:=Lib.hid hr;have e1:w.cell? ⟨0,0,none⟩=some (sentV E 1):=HE.out.1.err 1 (by decide);clear hr hx h1 hok;go_enter Tryz.func78,Tryz.ntmps78;go_wp2_with fail;go_ret;rw [HR.out];exact NetPost.same HN1.out (Below.refl _ _) hBw rfl
  ·have hr:cutN n u k=(0,{n with sites:=setCut u k n.sites}):=by unfold cutN;rw [hx];simp only;rw [if_neg hk0]
   have HR:=Lib.hid hr;have hrok:=cutN_ok (u:=u) (k:=k) hok hk.2;rw [hr] at hrok;obtain ⟨D,d1,d2,d3,d4⟩:=id h1.cuts;have H1:=Lib.hid h1;have Hd:=Lib.hid d1;have hlt:mc<maxLen:=by have:=h1.hmc;unfold maxLen;omega
   have Hrok:=Lib.hid hrok;have Hde:=Lib.hid (And.intro d2 (And.intro d3 d4));have hkl:=keyLit u (by unfold maxLen;omega);have Hx:=Lib.hid hx;have hwf:(Lit.int .i64 k).wf=true:=WalkArith.wf_i64 (by omega);clear h1 hr d1 d2 d3 d4 hok hrok hx;go_enter Tryz.func78,Tryz.ntmps78;go_wp2_with (first
    |(at_mapUpdate;refine wpList_mapUpdate_in _ rfl _ _ _ 53 rfl 9 3 Tryz.strKeyed Tryz.underlying53 RInt bc mc D rfl Hd.out hlt _ _ _ rfl rfl hkl (.lit (.int .i64 k)) [] (plainElem_int Tryz.underlying3 hwf) ?_;intro w2 hown2 hturn2)
    |go_in)
   go_ret;refine ⟨by rw [HR.out];rfl,?_,mapTurned_keeps hturn2 H1.out.hc hBw (by have:=H1.out.ec;omega)⟩;rw [HR.out];exact ⟨Hrok.out,netAt_cut H1.out (by omega) (by rw [Hx.out];rfl) Hd.out Hde.out.1 Hde.out.2.1 Hde.out.2.2 hown2 hturn2⟩
theorem netCalls_any (B b t:Nat) (n:NetB) (w:World) (h:NetIs w B b n t):
  Calls Tryz.prog 80 #[.pointer (some ⟨b,0,none⟩)] w fun e w'=>e=.returned (.int .i64 n.calls)∧w'=w:=by
 obtain ⟨hok,bt,bo,bc,mo,mc,fo,h1⟩:=h;have c3:w.cell? ⟨b,3,none⟩=some (.int .i64 n.calls):=by rw [Lib.cell_of_heap h1.blk];rfl
 clear h1 hok;go_enter Tryz.func80,Tryz.ntmps80;go_wp2_with fail;go_ret;exact ⟨rfl,rfl⟩
def GetPost (E:Nat→Addr) (B b t:Nat) (r:List UInt8×Nat×NetB) (w:World) (e:Ending) (w':World):Prop:=
 ∃x:ByteArray,e=.returned (.tuple #[.string x,errV E r.2.1])∧Hid (bl x=r.1)∧NetIs w' B b r.2.2 (t+1)∧KeepsU 4 b NetRow B w w'
theorem netAt_calls {w w':World} {B b t bt bo bc mo mc:Nat} {n:NetB} {fo:ByteArray→Option Bool} (h:NetAt w B b n t bt bo bc mo mc fo) (hw:w'=w.setCell ⟨b,3,none⟩ (.int .i64 ((n.calls+1:Nat):Int))):
  NetAt w' B b {n with calls:=n.calls+1} (t+1) bt bo bc mo mc fo∧KeepsU 4 b NetRow B w w':=by
 subst hw;have hne:∀{R:Value→Option (DataW Unit×List MemPlace)} {c m:Nat} {f:ByteArray→Option (DataW Unit)},MapIs R w c m f→(w.setCell ⟨b,3,none⟩ (.int .i64 ((n.calls+1:Nat):Int))).heap[c]? =w.heap[c]?:=by
  intro R c m f hc;refine Below.heap_setCell _ _ _ _ (fun e=>?_);obtain ⟨es,cl,h1⟩:=hc.isMap;rw [show c=b from e,h.blk] at h1
  cases h1
 refine ⟨{h with hmo:=Nat.le_succ_of_le h.hmo,hmc:=Nat.le_succ_of_le h.hmc,hcl:=Nat.succ_le_succ h.hcl,blk:=?_,texts:=h.texts.keep (hne h.texts),offs:=h.offs.keep (hne h.offs),cuts:=h.cuts.keep (hne h.cuts)},?_⟩
 ·simp [World.setCell,Array.getElem?_modify,h.blk]
 ·refine ⟨⟨(Below.refl B w).setCell (p:=⟨b,3,none⟩) h.hb _,fun k o hk hn=>?_⟩,fun k _ hkb=>Below.heap_setCell _ _ _ _ (fun e=>by have e2:k=b:=e;omega)⟩;rw [Below.heap_setCell _ _ _ _ (fun e=>hn ?_)]
  ·exact hk
  ·rw [show k=b from e,h.blk] at hk
   cases hk;exact .inr ⟨_,_,rfl⟩
theorem lkH_len (s:List UInt8):(lkH s).length≤s.length:=by
 have cl:∀l sep:List UInt8,(Lib.cut l sep).1.length≤l.length∧(Lib.cut l sep).2.1.length≤l.length:=by
  intro l sep;unfold Lib.cut;split
  ·constructor
   ·simp;omega
   ·simp
  ·simp
 unfold lkH lkR;have h1:=(cl s sepL).2;have h2:=(cl (Lib.cut s sepL).2.1 [47]).1;omega
theorem getPost_mk {E:Nat→Addr} {B b t c:Nat} {n:NetB} {w1 w2 w:World} {bt bo bc mo mc:Nat} {fo:ByteArray→Option Bool} {l:List UInt8} {x:ByteArray} {v:Value} {u:ByteArray} (hok:NetOk n) (h:NetAt w1 B b n t bt bo bc mo mc fo) (hw:w2=w1.setCell ⟨b,3,none⟩ (.int .i64 ((n.calls+1:Nat):Int)))
  (hb:Below w.heap.size w w1) (hB:B≤w.heap.size) (hr:getN n u=(l,c,{n with calls:=n.calls+1})) (hx:bl x=l) (hv:v=errV E c):GetPost E B b t (getN n u) w (.returned (.tuple #[.string x,v])) w2:=by
 obtain ⟨h1,h2⟩:=netAt_calls h hw;rw [hr,hv];exact ⟨x,rfl,hx,⟨⟨hok.apart,hok.few,hok.small⟩,_,_,_,_,_,_,h1⟩,(KeepsU.of hb hB).trans h2⟩
theorem GetPost.drewN {E:Nat→Addr} {B b t:Nat} {r:List UInt8×Nat×NetB} {w w':World} {e:Ending} (h:GetPost E B b t r w e w') (k:Nat) (hB:B≤w.heap.size):GetPost E B b t r w e (w'.drewN k):=by
 obtain ⟨x,h1,h2,h3,h4⟩:=h;exact ⟨x,h1,h2,h3.below (below_drewN _ _ _),h4.trans (KeepsU.of (below_drewN _ _ _) (Nat.le_trans hB h4.below.size))⟩
theorem netGet_any {E:Nat→Addr} (B b t:Nat) (n:NetB) (u:ByteArray) (w:World) (h:NetIs w B b n t) (ht:t<1000000000) (hu:u.size≤100000) (hBw:B≤w.heap.size) (hE:NEnv E w) (hG:∀k,k<13→gE k<B):
  Calls Tryz.prog 237 #[.pointer (some ⟨b,0,none⟩),.string u] w (GetPost E B b t (getN n u) w):=by
 have C:=Lib.hid (linkHost_any u w (by omega) hE.2);have HN:=Lib.hid h;have HE:=Lib.hid hE;have hg13:12<B:=hG 12 (by decide);have hg6:5<B:=hG 5 (by decide);clear hE h hG;go_enter Tryz.func237,Tryz.ntmps237;go_wp2_with fail;refine C.out.mono ?_;clear C;rintro e w1 ⟨⟨z,rfl,HZ⟩,hb⟩;obtain ⟨c,hc⟩:∃c,linkE (bl u)=c:=⟨_,rfl⟩;rw [hc];have HN1:=Lib.hid (HN.out.below hb)
 cases c with
 |succ c=>
  rw [show errV E (c+1)=sentV E c from rfl];have hr:getN n u=([],c+1,n):=by unfold getN;rw [hc,if_pos (by omega)]
  have HR:=Lib.hid hr;clear hc hr;go_wp2_with fail;go_ret2;rw [HR.out];exact ⟨⟨#[]⟩,rfl,rfl,HN1.out.later (Nat.le_succ _),KeepsU.of hb hBw⟩
 |zero=>
  rw [show errV E 0=.nilIface from rfl];have hz:bl z=lkH (bl u):=by rw [HZ.out,hc,if_pos rfl]
  obtain ⟨hok,bt,bo,bc,mo,mc,fo,h1⟩:=HN1.out;have c3:w1.cell? ⟨b,3,none⟩=some (.int .i64 n.calls):=by rw [Lib.cell_of_heap h1.blk];rfl
  have f3:w1.frozen? ⟨b,3,none⟩=false:=Lib.frozen_of_heap h1.blk 3;have hcl:=h1.hcl;obtain ⟨w2,hw2⟩:∃w2,w2=w1.setCell ⟨b,3,none⟩ (.int .i64 ((n.calls+1:Nat):Int)):=⟨_,rfl⟩;obtain ⟨h2,hk2⟩:=netAt_calls h1 hw2;have c0:w1.cell? ⟨b,0,none⟩=some (.map (some bt)):=by rw [Lib.cell_of_heap h1.blk];rfl
  have c1:w1.cell? ⟨b,1,none⟩=some (.map (some bo)):=by rw [Lib.cell_of_heap h1.blk];rfl
  have c2:w1.cell? ⟨b,2,none⟩=some (.map (some bc)):=by rw [Lib.cell_of_heap h1.blk];rfl
  have e13:w1.cell? ⟨12,0,none⟩=some (sentV E 12):=(HE.out.1.ext hb).err 12 (by decide);have e6:w1.cell? ⟨5,0,none⟩=some (sentV E 5):=(HE.out.1.ext hb).err 5 (by decide);have hl:=look_strs h2.texts u (by unfold maxLen;omega);have hzl:=lkH_len (bl u);rw [←hz,bl_length,bl_length] at hzl;have hlo:=look_bools h2.offs z (by unfold maxLen;omega);have hlc:=look_ints h2.cuts u (by unfold maxLen;omega);have ho:=h2.off z;rw [ho] at hlo;have hw2':w2=w1.setCell ⟨b,3,none⟩ (.int .i64 ((n.calls:Int)+1)):=hw2;rw [hw2'] at hl hlo hlc;have HH:=Lib.hid h1;have Hok:=Lib.hid hok;have hbB:=h1.hb;have HW:Hid (w1.setCell ⟨b,3,none⟩ (.int .i64 ((n.calls:Int)+1))=w1.setCell ⟨b,3,none⟩ (.int .i64 ((n.calls+1:Nat):Int))):=Lib.hid rfl;dsimp only at hl hlc;have HC:=Lib.hid hc;rw [hz] at hlo;have HZ2:=Lib.hid hz;obtain ⟨o,hoo⟩:∃o,(n.off.map bl).contains (lkH (bl u))=o:=⟨_,rfl⟩;rw [hoo] at hlo;have HO:=Lib.hid hoo;clear h1 h2 hk2 hok hw2 hw2' hc hz hoo ho hzl w2
  cases o with
  |true=>
   have hr:getN n u=([],13,{n with calls:=n.calls+1}):=by unfold getN;rw [HC.out,if_neg (by simp),if_pos HO.out]
   have HR:=Lib.hid hr;clear hr;go_wp2_with fail;go_quiet (fail);go_wp2_with fail;go_ret2;exact (getPost_mk Hok.out HH.out HW.out hb hBw HR.out rfl rfl).drewN _ hBw
  |false=>
   rcases hx:siteAt u n.sites with _|x
   ·have hr:getN n u=([],6,{n with calls:=n.calls+1}):=by unfold getN;rw [HC.out,if_neg (by simp),if_neg (by rw [HO.out];simp),hx]
    have HR:=Lib.hid hr;rw [show textAt u n.sites=none by unfold textAt;rw [hx];rfl] at hl;simp only [Option.getD_none,Option.isSome_none] at hl;clear hr hx;go_wp2_with fail;go_quiet (fail);go_wp2_with fail;go_ret2;exact (getPost_mk Hok.out HH.out HW.out hb hBw HR.out rfl rfl).drewN _ hBw
   ·have hr:getN n u=(cutText x.text x.cut,0,{n with calls:=n.calls+1}):=by unfold getN;rw [HC.out,if_neg (by simp),if_neg (by rw [HO.out];simp),hx]
    have HR:=Lib.hid hr;have hxm:=siteAt_url hx;obtain ⟨_,hx2,hx3,hx4⟩:=Hok.out.small x hxm.2;rw [show textAt u n.sites=some x.text by unfold textAt;rw [hx];rfl] at hl;simp only [Option.getD_some,Option.isSome_some] at hl;by_cases hx0:0≤x.cut
    ·rw [show cutAt u n.sites=some x.cut by unfold cutAt;rw [hx];simp [hx0]] at hlc;simp only [Option.getD_some,Option.isSome_some] at hlc;by_cases hxc:x.cut<x.text.size
     ·have sl:=slice_to x.text x.cut x.cut.toNat (by omega) (by omega);have hfin:bl (x.text.extract 0 x.cut.toNat)=cutText x.text x.cut:=by
       unfold cutText;rw [if_pos ⟨hx0,hxc⟩,bl_extract];simp
      have HF:=Lib.hid hfin;have hmin:min x.cut (x.text.size:Int)=x.cut:=by omega
      clear hr hx hxm hfin;go_wp2_with fail;go_ret2;exact getPost_mk Hok.out HH.out HW.out hb hBw HR.out HF.out rfl
     ·have sl:=slice_to x.text x.text.size x.text.size (by omega) rfl;have hfin:bl x.text=cutText x.text x.cut:=by unfold cutText;rw [if_neg (by omega)]
      have HF:=Lib.hid hfin;have hmin:min x.cut (x.text.size:Int)=x.text.size:=by omega
      clear hr hx hxm hfin;go_wp2_with fail;go_ret2;exact getPost_mk Hok.out HH.out HW.out hb hBw HR.out HF.out rfl
    ·rw [show cutAt u n.sites=none by unfold cutAt;rw [hx];simp [hx0]] at hlc;simp only [Option.getD_none,Option.isSome_none] at hlc;have hfin:bl x.text=cutText x.text x.cut:=by unfold cutText;rw [if_neg (by omega)]
     have HF:=Lib.hid hfin;clear hr hx hxm hfin;go_wp2_with fail;go_ret2;exact getPost_mk Hok.out HH.out HW.out hb hBw HR.out HF.out rfl
theorem Row.three {α:Type} {enc:α→List Value} {w:World} {v:Value} {l:List α} (h:Row enc 3 w v l):
  ∃ao cap,v=.slice ao l.length cap∧l.length≤cap∧cap≤maxLen∧(∀i,(hi:i<l.length)→∃b off,ao=some ⟨b,off,none⟩∧b<w.heap.size∧∀k,(hk:k<l.length)→∀j,j<3→w.cell? ⟨b,off+k*3+j,none⟩=some ((enc l[k]).getD j undef)):=by
 rcases h with ⟨rfl,rfl⟩|⟨b,off,cap,rfl,h1,h2,h3,h4⟩
 ·exact ⟨none,0,rfl,Nat.le_refl _,Nat.zero_le _,fun i hi=>absurd hi (Nat.not_lt_zero _)⟩
 ·exact ⟨some ⟨b,off,none⟩,cap,rfl,h1,h2,fun i hi=>⟨b,off,rfl,h3,h4⟩⟩
theorem Keeps.set {K:Obj→Prop} {B b j:Nat} {w:World} {o:Obj} {x:Value} (hB:B≤b) (hb:w.heap[b]? =some o) (hK:K o):Keeps K B w (w.setCell ⟨b,j,none⟩ x):=by
 refine ⟨(Below.refl B w).setCell (p:=⟨b,j,none⟩) hB _,fun k o' hk hn=>?_⟩;by_cases he:k=b
 ·subst he;rw [hb] at hk;cases hk;exact absurd hK hn
 ·rw [Below.heap_setCell _ _ _ _ he];exact hk
theorem keeps_grown {K:Obj→Prop} {w w':World} {B size n:Nat} {e:TypeId} {v:Value} {xs:List Value} (h:w.ownsRow B e size v n xs) (hg:w.grownBy w' v.ownBlock) (hB:B≤w.heap.size) (hK:∀cs,K (.cells cs e (0,0))):Keeps K B w w':=by
 refine ⟨(Below.refl B w).grown hg hB (fun g e=>(h.lt g e).1),fun k o hk hn=>?_⟩;rw [hg.block k (Array.getElem?_eq_some_iff.1 hk).1 (fun e=>hn ?_)]
 ·exact hk
 ·rcases h.2 with ⟨rfl,_⟩|⟨g,cap,cur,rfl,_,hgg,_⟩
  ·simp [Value.ownBlock] at e
  ·obtain rfl:k=g:=Option.some.inj e;rw [hgg] at hk
   cases hk;exact hK _
theorem getN_le (n:NetB) (u:ByteArray):(getN n u).2.1≤13:=by
 unfold getN;split
 ·exact linkE_le _
 ·split
  ·exact Nat.le_of_ble_eq_true rfl
  ·split<;>exact Nat.le_of_ble_eq_true rfl
theorem Keeps.wide {K L:Obj→Prop} {B:Nat} {w w':World} (h:Keeps K B w w') (hk:∀o,K o→L o):Keeps L B w w':=⟨h.below,fun k o ho hn=>h.keep k o ho (fun hK=>hn (hk o hK))⟩
theorem notN_str (cs:Array Value):¬NetRow (.cells cs 9 (0,0)):=by
 rintro (⟨es,c,h⟩|⟨c,fz,h⟩)
 ·cases h
 ·injection h with _ h3 _;exact absurd h3 (by decide)
end Go.Proofs.YtaabgmbjmfjdjaaGreatDoor
