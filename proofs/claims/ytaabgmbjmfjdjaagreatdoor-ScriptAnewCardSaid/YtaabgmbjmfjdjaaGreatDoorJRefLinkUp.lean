import Derived.Test.YtaabgmbjmfjdjaaGreatDoorJPathedEtc
import Derived.Test.YtaabgmbjmfjdjaaGreatDoorJPlainly
import Derived.Test.YtaabgmbjmfjdjaaGreatDoorJRowedEtc
import Derived.Lib.Hide
import Derived.Test.YtaabgmbjmfjdjaaGreatDoorJCleanUp
namespace Go.Proofs.YtaabgmbjmfjdjaaGreatDoor
open Go Go.RowKit
set_option maxHeartbeats 1000000
set_option maxRecDepth 100000
structure LEnv (E:Nat→Addr) (w:World):Prop where
 path:PEnv E w
 eText:w.cell? ⟨2,0,none⟩=some (sentV E 0)
 eKind:w.cell? ⟨3,0,none⟩=some (sentV E 3)
 eNone:w.cell? ⟨5,0,none⟩=some (sentV E 5)
theorem LEnv.ext {E:Nat→Addr} {w w':World} (h:LEnv E w) (hb:Below w.heap.size w w'):LEnv E w':=by
 obtain ⟨h0,h1,h2,h3⟩:=h;exact ⟨h0.ext hb,by rw [hb.cell (p:=⟨2,0,none⟩) (lt_of_cell h1)];exact h1,by rw [hb.cell (p:=⟨3,0,none⟩) (lt_of_cell h2)];exact h2,
  by rw [hb.cell (p:=⟨5,0,none⟩) (lt_of_cell h3)];exact h3⟩
theorem cut_size (l sep:List UInt8):(Lib.cut l sep).1.length≤l.length∧(Lib.cut l sep).2.1.length≤l.length:=by
 unfold Lib.cut;split
 ·constructor
  ·simp;omega
  ·simp
 ·simp
theorem cut_at (s sep:ByteArray) (w:World) (hs:s.size≤1000000) (hm:∃m,w.cell? ⟨14,0,none⟩=some (.int .i64 m)):
  Calls Tryz.prog 109 #[.string s,.string sep] w fun e w'=>
   (∃(a b:ByteArray),e=.returned (.tuple #[.string a,.string b,.bool (Lib.cut (bl s) (bl sep)).2.2])∧Hid (bl a=(Lib.cut (bl s) (bl sep)).1)∧Hid (bl b=(Lib.cut (bl s) (bl sep)).2.1)∧a.size≤s.size∧b.size≤s.size)∧Below w.heap.size w w':=by
 obtain ⟨m,hm⟩:=hm;refine (Tryz.strings_Cut s sep m w (by omega) hm).mono ?_;rintro e w' ⟨rfl,n,rfl⟩;have h:=cut_size (bl s) (bl sep);rw [bl_length] at h;exact ⟨⟨_,_,rfl,rfl,rfl,by rw [←bl_length];exact h.1,by rw [←bl_length];exact h.2⟩,below_drewN _ _ _⟩
theorem results_tmp4 {fn:Func} {t u v x:Tmp} (h:fn.results=#[.tmp t,.tmp u,.tmp v,.tmp x]) (tmps:Array Value) (P:Program) (w:World):
  (results fn tmps).run P w=.ok (.tuple #[tmps.getD t undef,tmps.getD u undef,tmps.getD v undef,tmps.getD x undef]) w:=by
 simp [results,h]
theorem blInj {a b:ByteArray} (h:bl a=bl b):a=b:=by
 cases a;cases b;congr 1;exact Array.toList_inj.1 h
def kindsB:List ByteArray:=[⟨#[104,116,116,112]⟩,⟨#[102,116,112]⟩,⟨#[102,105,108,101]⟩]
theorem kindsB_has (k:ByteArray):Lib.containsS (kindsB.take 3) k=kinds.contains (bl k):=by
 rw [Bool.eq_iff_iff,Lib.containsS_iff,List.contains_iff_mem];constructor
 ·intro h;exact List.mem_map.2 ⟨k,h,rfl⟩
 ·intro h;have h2:bl k∈kindsB.map bl:=h;obtain ⟨z,hz,e⟩:=List.mem_map.1 h2;rw [←blInj e];exact hz
theorem kinds_any (k:ByteArray) (w:World):Calls Tryz.prog 181 #[.slice (some ⟨w.heap.size,0,none⟩) 3 3,.string k]
  (w.alloc (.cells #[.string ⟨#[104,116,116,112]⟩,.string ⟨#[102,116,112]⟩,.string ⟨#[102,105,108,101]⟩] 9)) fun e w'=>e=.returned (.bool (kinds.contains (bl k)))∧Below w.heap.size w w':=by
 refine (Tryz.slices_Contains_string w.heap.size 0 3 3 kindsB k _ (Nat.le_refl 3) (by decide) ?_).mono ?_
 ·intro j hj;rw [World.cell?_alloc_at _ _ _ _ rfl];have h3:j<3:=hj;have:j=0∨j=1∨j=2:=by omega
  rcases this with rfl|rfl|rfl<;>rfl
 ·rintro e w' ⟨rfl,rfl⟩;exact ⟨by rw [kindsB_has],(Below.refl _ w).alloc (Nat.le_refl _) _⟩
theorem linkParts_any {E:Nat→Addr} (s:ByteArray) (w:World) (hs:s.size≤1000000) (hE:LEnv E w):Calls Tryz.prog 140 #[.string s] w fun e w'=>
  (∃(k h p:ByteArray),e=.returned (.tuple #[.string k,.string h,.string p,errV E (lkE (bl s))])∧Hid (bl h=lkH (bl s))∧Hid (bl p=lkP (bl s))∧h.size≤s.size∧p.size≤s.size)∧Below w.heap.size w w':=by
 have C:=Lib.hid (cut_at s ⟨#[58,47,47]⟩ w hs hE.path.max);have HE:=Lib.hid hE;clear hE;go_enter Tryz.func140,Tryz.ntmps140;go_wp2_with fail;refine C.out.mono ?_;rintro e w1 ⟨⟨k,r,rfl,HK,HR,hk,hr⟩,hb⟩;clear C;have e1:=HE.out.ext hb;have C:=Lib.hid (cut_at r ⟨#[47]⟩ w1 (by omega) e1.path.max);clear e1;go_wp2_with fail;refine C.out.mono ?_;rintro e w2 ⟨⟨h,p,rfl,HH,HP,hh,hp⟩,hb2⟩;clear C;have hbb:=hb.trans (hb2.mono hb.size);have hpp:p.size≤s.size:=by omega
 have hhh:h.size≤s.size:=by omega
 have HI:Hid ((Lib.cut (bl s) (bl ⟨#[58,47,47]⟩)).2.2=lkIs (bl s)):=rfl;have HR2:bl r=lkR (bl s):=HR.out;have HA:Hid ((Lib.cut (bl r) (bl ⟨#[47]⟩)).2.2=lkAlso (bl s)):=by show _=_;rw [HR2];rfl
 have HH2:Hid (bl h=lkH (bl s)):=by show _=_;rw [HH.out,HR2];rfl
 have HP2:Hid (bl p=lkP (bl s)):=by show _=_;rw [HP.out,HR2];rfl
 have HK2:Hid (bl k=lkK (bl s)):=HK;have e2:=HE.out.ext hbb;have c1:=e2.eText;clear HH HP HK HR HR2 hr hk hh hp e2;rw [HI.out,HA.out];clear HI HA
 cases hi:lkIs (bl s) with
 |false=>
  have HX:Hid (lkE (bl s)=1):=by show _=_;unfold lkE;rw [hi];rfl
  clear hi;go_wp2_with fail;refine bodyPost_ret (results_tmp4 rfl _ _ _) rfl ?_;exact ⟨⟨k,h,p,by rw [HX.out];rfl,HH2,HP2,hhh,hpp⟩,hbb⟩
 |true=>
  cases ha:lkAlso (bl s) with
  |false=>
   have HX:Hid (lkE (bl s)=1):=by show _=_;unfold lkE;rw [hi,ha];rfl
   clear hi ha;go_wp2_with fail;refine bodyPost_ret (results_tmp4 rfl _ _ _) rfl ?_;exact ⟨⟨k,h,p,by rw [HX.out];rfl,HH2,HP2,hhh,hpp⟩,hbb⟩
  |true=>
   have HX:=Lib.hid (show lkE (bl s)=if !(kinds.contains (lkK (bl s))) then 4 else if !(partB (lkH (bl s))) then 5 else 0 by unfold lkE;rw [hi,ha];rfl);clear hi ha c1;go_wp2_with fail;refine (kinds_any k w2).mono ?_;rintro e w3 ⟨rfl,hb3⟩;have hb4:=hbb.trans (hb3.mono hbb.size);have e3:=HE.out.ext hb4;have c1:=e3.eKind;have c2:=e3.path.name;rw [HK2.out];clear e3
   cases hc:kinds.contains (lkK (bl s)) with
   |false=>
    have HY:Hid (lkE (bl s)=4):=by show _=_;rw [HX.out,hc];rfl
    clear hc HX;go_wp2_with fail;refine bodyPost_ret (results_tmp4 rfl _ _ _) rfl ?_;exact ⟨⟨k,h,p,by rw [HY.out];rfl,HH2,HP2,hhh,hpp⟩,hb4⟩
   |true=>
    have HY:Hid (lkE (bl s)=if !(partB (lkH (bl s))) then 5 else 0):=by show _=_;rw [HX.out,hc];rfl
    clear hc HX c1 c2;go_wp2_with fail;refine (part_any h w3 (by omega)).mono ?_;rintro e w4 ⟨rfl,hb5⟩;have hb6:=hb4.trans (hb5.mono hb4.size);have c2:=(HE.out.ext hb6).path.name;rw [HH2.out]
    cases hp:partB (lkH (bl s)) with
    |false=>
     have HZ:Hid (lkE (bl s)=5):=by show _=_;rw [HY.out,hp];rfl
     clear hp HY;go_wp2_with fail;refine bodyPost_ret (results_tmp4 rfl _ _ _) rfl ?_;exact ⟨⟨k,h,p,by rw [HZ.out];rfl,HH2,HP2,hhh,hpp⟩,hb6⟩
    |true=>
     have HZ:Hid (lkE (bl s)=0):=by show _=_;rw [HY.out,hp];rfl
     clear hp HY;go_wp2_with fail;refine bodyPost_ret (results_tmp4 rfl _ _ _) rfl ?_;exact ⟨⟨k,h,p,by rw [HZ.out];rfl,HH2,HP2,hhh,hpp⟩,hb6⟩
theorem linkCheck_any {E:Nat→Addr} (s:ByteArray) (w:World) (hs:s.size≤1000000) (hE:LEnv E w):
  Calls Tryz.prog 108 #[.string s] w fun e w'=>e=.returned (errV E (linkE (bl s)))∧Below w.heap.size w w':=by
 have C:=Lib.hid (linkParts_any s w hs hE);have HE:=Lib.hid hE;clear hE;go_enter Tryz.func108,Tryz.ntmps108;go_wp2_with fail;refine C.out.mono ?_;clear C;rintro e w1 ⟨⟨k,h,p,rfl,HH,HP,hh,hp⟩,hb⟩
 cases hc:lkE (bl s) with
 |succ c=>
  have HX:Hid (linkE (bl s)=c+1):=by show _=_;unfold linkE;rw [if_neg (by omega),hc]
  rw [show errV E (c+1)=sentV E c from rfl];clear hc;go_wp2_with fail;go_ret;exact ⟨by rw [HX.out];rfl,hb⟩
 |zero=>
  have HX:Hid (linkE (bl s)=partsE (bl p)):=by show _=_;unfold linkE;rw [if_pos hc,HP.out]
  rw [show errV E 0=.nilIface from rfl];have C:=Lib.hid (pathCheck_any p w1 (by omega) (HE.out.ext hb).path);clear hc;go_wp2_with fail;refine C.out.mono ?_;rintro e w2 ⟨rfl,hb2⟩;clear C;go_wp2_with fail;go_ret;exact ⟨by rw [HX.out];rfl,hb.trans (hb2.mono hb.size)⟩
theorem trimSlash_any (p:ByteArray) (w:World) (hp:p.size≤1000000):Calls Tryz.prog 141 #[.string p,.string ⟨#[47]⟩] w fun e w'=>
  (∃d:ByteArray,e=.returned (.string d)∧Hid (bl d=Lib.trimSuffix (bl p) [47])∧d.size≤p.size)∧w'=w:=by
 refine (Tryz.strings_TrimSuffix p ⟨#[47]⟩ w (by omega)).mono ?_;rintro e w' ⟨rfl,rfl⟩;refine ⟨⟨_,rfl,rfl,?_⟩,rfl⟩;rw [←bl_length,←bl_length];show (Lib.trimSuffix (bl p) [47]).length≤(bl p).length;unfold Lib.trimSuffix;split
 ·simp
 ·exact Nat.le_refl _
theorem linkBegins_any {E:Nat→Addr} (s:ByteArray) (w:World) (hs:s.size≤1000000) (hE:LEnv E w):
  Calls Tryz.prog 105 #[.string s] w fun e w'=>e=.returned (errV E (beginE (bl s)))∧Below w.heap.size w w':=by
 have C:=Lib.hid (linkParts_any s w hs hE);have HE:=Lib.hid hE;clear hE;go_enter Tryz.func105,Tryz.ntmps105;go_wp2_with fail;refine C.out.mono ?_;clear C;rintro e w1 ⟨⟨k,h,p,rfl,HH,HP,hh,hp⟩,hb⟩
 cases hc:lkE (bl s) with
 |succ c=>
  have HX:Hid (beginE (bl s)=c+1):=by show _=_;unfold beginE;rw [if_neg (by omega),hc]
  rw [show errV E (c+1)=sentV E c from rfl];clear hc;go_wp2_with fail;go_ret;exact ⟨by rw [HX.out];rfl,hb⟩
 |zero=>
  have HX:=Lib.hid (show beginE (bl s)=if Lib.trimSuffix (lkP (bl s)) [47]=[] then 0 else partsE (Lib.trimSuffix (lkP (bl s)) [47]) by unfold beginE;rw [if_pos hc]);rw [show errV E 0=.nilIface from rfl];clear hc;go_wp2_with fail;refine (trimSlash_any p w1 (by omega)).mono ?_;rintro e w2 ⟨⟨d,rfl,HD,hd⟩,rfl⟩;have HY:Hid (beginE (bl s)=if bl d=[] then 0 else partsE (bl d)):=by show _=_;rw [HX.out,HD.out,HP.out]
  clear HX HD HP;have he:d.toList.isEmpty=(bl d).isEmpty:=by rw [toList_bl]
  cases q:d.toList.isEmpty with
  |true=>
   have HZ:Hid (beginE (bl s)=0):=by show _=_;rw [HY.out,if_pos (List.isEmpty_iff.1 (by rw [←he];exact q))]
   clear HY he;go_wp2_with fail;go_ret;exact ⟨by rw [HZ.out];rfl,hb⟩
  |false=>
   have HZ:Hid (beginE (bl s)=partsE (bl d)):=by show _=_;rw [HY.out,if_neg (by intro h;rw [he,h] at q;cases q)]
   clear HY he;have C:=Lib.hid (pathCheck_any d w2 (by omega) (HE.out.ext hb).path);go_wp2_with fail;refine C.out.mono ?_;rintro e w3 ⟨rfl,hb2⟩;clear C;go_wp2_with fail;go_ret;exact ⟨by rw [HZ.out];rfl,hb.trans (hb2.mono hb.size)⟩
def HostPost (E:Nat→Addr) (s:ByteArray) (w:World) (e:Ending) (w':World):Prop:=
 (∃h:ByteArray,e=.returned (.tuple #[.string h,errV E (linkE (bl s))])∧Hid (bl h=if linkE (bl s)=0 then lkH (bl s) else []))∧Below w.heap.size w w'
theorem linkHost_any {E:Nat→Addr} (s:ByteArray) (w:World) (hs:s.size≤1000000) (hE:LEnv E w):
  Calls Tryz.prog 250 #[.string s] w (HostPost E s w):=by
 have C:=Lib.hid (linkCheck_any s w hs hE);have HE:=Lib.hid hE;clear hE;go_enter Tryz.func250,Tryz.ntmps250;go_wp2_with fail;refine C.out.mono ?_;clear C;rintro e w1 ⟨rfl,hb⟩;obtain ⟨c,hc⟩:∃c,linkE (bl s)=c:=⟨_,rfl⟩;rw [hc];have HC:=Lib.hid hc
 cases c with
 |succ c=>
  rw [show errV E (c+1)=sentV E c from rfl];clear hc;go_wp2_with fail;go_ret2;exact ⟨⟨⟨#[]⟩,by rw [HC.out];rfl,by show _=_;rw [HC.out];rfl⟩,hb⟩
 |zero=>
  have HL:Hid (lkE (bl s)=0):=by
   show _=_;unfold linkE at hc;split at hc
   ·assumption
   ·rename_i h;exact absurd hc h
  rw [show errV E 0=.nilIface from rfl];clear hc;have C:=Lib.hid (linkParts_any s w1 hs (HE.out.ext hb));go_wp2_with fail;refine C.out.mono ?_;clear C;rintro e w2 ⟨⟨k,h,p,rfl,HH,HP,hh,hp⟩,hb2⟩;rw [HL.out,show errV E 0=.nilIface from rfl];go_wp2_with fail;go_ret2;exact ⟨⟨h,by rw [HC.out];rfl,by show _=_;rw [HC.out,if_pos rfl];exact HH.out⟩,hb.trans (hb2.mono hb.size)⟩
theorem cutPre_any (s p:ByteArray) (w:World):Calls Tryz.prog 110 #[.string s,.string p] w fun e w'=>
  (∃d:ByteArray,e=.returned (.tuple #[.string d,.bool (Lib.hasPrefix (bl s) (bl p))])∧Hid (Lib.hasPrefix (bl s) (bl p)=true→bl d=(bl s).drop (bl p).length)∧d.size≤s.size)∧w'=w:=by
 refine (Tryz.strings_CutPrefix s p w).mono ?_;rintro e w' ⟨rfl,rfl⟩;refine ⟨⟨_,rfl,?_,?_⟩,rfl⟩
 ·intro h;show Lib.trimPrefix (bl s) (bl p)=_;unfold Lib.trimPrefix;rw [if_pos h]
 ·rw [←bl_length,←bl_length];show (Lib.trimPrefix (bl s) (bl p)).length≤(bl s).length;unfold Lib.trimPrefix;split
  ·simp
  ·exact Nat.le_refl _
def LinkSwapPost (E:Nat→Addr) (f t s:ByteArray) (w:World) (e:Ending) (w':World):Prop:=
 (∃x:ByteArray,e=.returned (.tuple #[.string x,errV E (swapE (bl f) (bl t) (bl s))])∧Hid (bl x=swapT (bl f) (bl t) (bl s)))∧Below w.heap.size w w'
theorem LinkSwapPost.err {E:Nat→Addr} {f t s:ByteArray} {w w':World} {c:Nat} (h:Hid (swapE (bl f) (bl t) (bl s)=c+1)) (hb:Below w.heap.size w w'):LinkSwapPost E f t s w (.returned (.tuple #[.string ⟨#[]⟩,sentV E c])) w':=
 ⟨⟨⟨#[]⟩,by rw [h.out];rfl,by show _=_;unfold swapT;rw [h.out];rfl⟩,hb⟩
theorem LinkSwapPost.ok {E:Nat→Addr} {f t s x:ByteArray} {w w':World} (h:Hid (swapE (bl f) (bl t) (bl s)=0)) (hx:Hid (bl x=swapX (bl f) (bl t) (bl s))) (hb:Below w.heap.size w w'):LinkSwapPost E f t s w (.returned (.tuple #[.string x,.nilIface])) w':=
 ⟨⟨x,by rw [h.out];rfl,by show _=_;unfold swapT;rw [h.out,if_pos rfl];exact hx.out⟩,hb⟩
theorem bl_add (a b:ByteArray):bl (a++b)=bl a++bl b:=by
 show (a++b).data.toList=a.data.toList++b.data.toList;rw [ByteArray.data_append,Array.toList_append]
theorem swap_any {E:Nat→Addr} (f t s:ByteArray) (w:World) (hf:f.size≤100000) (ht:t.size≤100000) (hs:s.size≤100000) (hE:LEnv E w):
  Calls Tryz.prog 236 #[.string f,.string t,.string s] w (LinkSwapPost E f t s w):=by
 have HE:=Lib.hid hE;clear hE;go_enter Tryz.func236,Tryz.ntmps236;go_wp2_with fail;refine wp_loop_rounds 3 ?_;rw [rounds_succ];go_wp2_with fail;have b0:Below w.heap.size w (w.alloc (.cells #[.string f,.string t] 9)):=(Below.refl _ w).alloc (Nat.le_refl _) _;have k1:(w.alloc (.cells #[.string f,.string t] 9)).cell? ⟨w.heap.size,1,none⟩=some (.string t):=by rw [World.cell?_alloc_at _ _ _ _ rfl];rfl
 have kb:w.heap.size<(w.alloc (.cells #[.string f,.string t] 9)).heap.size:=by simp
 generalize hW:w.alloc (.cells #[.string f,.string t] 9)=W at*;clear hW;have C:=Lib.hid (linkBegins_any f W (by omega) (HE.out.ext b0));refine C.out.mono ?_;clear C;rintro e w1 ⟨rfl,hb1⟩;have b1:=b0.trans (hb1.mono b0.size);have k2:=(hb1.cell (p:=⟨w.heap.size,1,none⟩) kb).trans k1;clear k1 kb;obtain ⟨c,hc⟩:∃c,beginE (bl f)=c:=⟨_,rfl⟩;rw [hc]
 cases c with
 |succ c=>
  have HX:Hid (swapE (bl f) (bl t) (bl s)=c+1):=by show _=_;unfold swapE;rw [if_neg (by omega),hc]
  rw [show errV E (c+1)=sentV E c from rfl];clear hc k2;go_wp2_with fail;go_ret2;exact LinkSwapPost.err HX b1
 |zero=>
  have H1:=Lib.hid hc;rw [show errV E 0=.nilIface from rfl];clear hc;go_wp2_with fail;rw [rounds_succ];go_wp2_with fail;clear k2;have C:=Lib.hid (linkBegins_any t w1 (by omega) (HE.out.ext b1));refine C.out.mono ?_;clear C;rintro e w2 ⟨rfl,hb2⟩;have b2:=b1.trans (hb2.mono b1.size);obtain ⟨c,hc⟩:∃c,beginE (bl t)=c:=⟨_,rfl⟩;rw [hc]
  cases c with
  |succ c=>
   have HX:Hid (swapE (bl f) (bl t) (bl s)=c+1):=by show _=_;unfold swapE;rw [if_pos H1.out,if_neg (by omega),hc]
   rw [show errV E (c+1)=sentV E c from rfl];clear hc;go_wp2_with fail;go_ret2;exact LinkSwapPost.err HX b2
  |zero=>
   have H2:=Lib.hid hc;rw [show errV E 0=.nilIface from rfl];clear hc;go_wp2_with fail;rw [rounds_succ];go_wp2_with fail;have C:=Lib.hid (linkCheck_any s w2 (by omega) (HE.out.ext b2));refine C.out.mono ?_;clear C;rintro e w3 ⟨rfl,hb3⟩;have b3:=b2.trans (hb3.mono b2.size);obtain ⟨c,hc⟩:∃c,linkE (bl s)=c:=⟨_,rfl⟩;rw [hc]
   cases c with
   |succ c=>
    have HX:Hid (swapE (bl f) (bl t) (bl s)=c+1):=by show _=_;unfold swapE;rw [if_pos H1.out,if_pos H2.out,if_neg (by omega),hc]
    rw [show errV E (c+1)=sentV E c from rfl];clear hc;go_wp2_with fail;go_ret2;exact LinkSwapPost.err HX b3
   |zero=>
    have H3:=Lib.hid hc;rw [show errV E 0=.nilIface from rfl];clear hc;go_wp2_with fail;refine (cutPre_any s f w3).mono ?_;rintro e w4 ⟨⟨d,rfl,HD,hd⟩,rfl⟩
    cases hp:Lib.hasPrefix (bl s) (bl f) with
    |false=>
     have HX:Hid (swapE (bl f) (bl t) (bl s)=5+1):=by show _=_;unfold swapE;rw [if_pos H1.out,if_pos H2.out,if_pos H3.out,hp];rfl
     have c1:=(HE.out.ext b3).eNone;clear HD hp;go_wp2_with fail;go_quiet (fail);go_wp2_with fail;go_ret2;exact LinkSwapPost.err HX (b3.trans ((below_drewN _ _ _).mono b3.size))
    |true=>
     have HX:Hid (bl (t++d)=swapX (bl f) (bl t) (bl s)):=by show _=_;rw [bl_add,HD.out hp];rfl
     have HY:Hid (swapE (bl f) (bl t) (bl s)=linkE (bl (t++d))):=by show _=_;rw [HX.out];unfold swapE;rw [if_pos H1.out,if_pos H2.out,if_pos H3.out,hp];rfl
     have hsz:(t++d).size≤200000:=by have:=congrArg List.length (bl_add t d);rw [List.length_append,bl_length,bl_length,bl_length] at this;omega
     clear HD hp;go_wp2_with fail;have C:=Lib.hid (linkCheck_any (t++d) w4 (by omega) (HE.out.ext b3));refine C.out.mono ?_;clear C;rintro e w5 ⟨rfl,hb5⟩;have b5:=b3.trans (hb5.mono b3.size);obtain ⟨c,hc⟩:∃c,linkE (bl (t++d))=c:=⟨_,rfl⟩;rw [hc]
     cases c with
     |succ c=>
      have HZ:Hid (swapE (bl f) (bl t) (bl s)=c+1):=by show _=_;rw [HY.out,hc]
      rw [show errV E (c+1)=sentV E c from rfl];clear hc;go_wp2_with fail;go_ret2;exact LinkSwapPost.err HZ b5
     |zero=>
      have HZ:Hid (swapE (bl f) (bl t) (bl s)=0):=by show _=_;rw [HY.out,hc]
      rw [show errV E 0=.nilIface from rfl];clear hc;go_wp2_with fail;go_ret2;exact LinkSwapPost.ok HZ HX b5
def RefLinkPost (s:ByteArray) (w:World) (e:Ending) (w':World):Prop:=
 ∃k h p:ByteArray,e=.returned (.tuple #[.string k,.string h,.string p,.int .i64 (lkE (bl s))])∧Hid (lkE (bl s)=0→bl h=lkH (bl s)∧bl p=lkP (bl s))∧p.size≤s.size∧Below w.heap.size w w'
theorem RefLinkPost.bad {s:ByteArray} {w w':World} {c:Nat} {n:Int} (h:Hid (lkE (bl s)=c+1)) (hn:n=(c+1:Nat)) (hb:Below w.heap.size w w'):
  RefLinkPost s w (.returned (.tuple #[.string ⟨#[]⟩,.string ⟨#[]⟩,.string ⟨#[]⟩,.int .i64 n])) w':=
 ⟨⟨#[]⟩,⟨#[]⟩,⟨#[]⟩,by rw [h.out,hn],fun h0=>by have:=h.out;omega,Nat.zero_le _,hb⟩
theorem sameTexts_same {w:World} {v u:Value} {xs ys:List ByteArray} (hv:Row encStr 1 w v xs) (hu:Row encStr 1 w u ys) (he:xs.map bl=ys.map bl) (hn:xs.length≤1000000):
  Calls Tryz.prog 10 #[v,u] w fun e w'=>e=.returned (.bool true)∧Below w.heap.size w w':=by
 obtain rfl:xs=ys:=by
  have inj:∀(a b:List ByteArray),a.map bl=b.map bl→a=b:=by
   intro a;induction a with
   |nil=>intro b h;cases b with|nil=>rfl|cons _ _=>cases h
   |cons x a ih=>
    intro b h
    cases b with
    |nil=>cases h
    |cons y b=>
     rw [List.map_cons,List.map_cons] at h;injection h with h1 h2
     rw [bl_inj h1,ih b h2]
  exact inj xs ys he
 obtain ⟨ao,cap,rfl,h1,h2,H3⟩:=hv.parts;obtain ⟨ao2,cap2,rfl,h4,h5,H6⟩:=hu.parts;have HM:=Lib.hid H3;have HN:=Lib.hid H6;clear H3 H6 hv hu he;go_enter Tryz.func10,Tryz.ntmps10;go_wp2_with fail;go_loopw [5] (fun i w1=>∃k:Nat,k≤xs.length∧i=.int .i64 k∧Below w.heap.size w w1) (fun i _=>xs.length- (intOf i).toNat)
 case atStart=>exact ⟨0,Nat.zero_le _,rfl,Below.refl _ _⟩
 case round=>
  obtain ⟨k,hk,rfl,hb⟩:=hrel;by_cases hlt:k<xs.length
  ·obtain ⟨b,off,rfl,hbl,hcell⟩:=HM.out k hlt;obtain ⟨b2,off2,rfl,hbl2,hcell2⟩:=HN.out k hlt;have c1:=hcell k hlt;have c2:=hcell2 k hlt;rw [←hb.cell (p:=⟨b,off+k,none⟩) hbl] at c1;rw [←hb.cell (p:=⟨b2,off2+k,none⟩) hbl2] at c2;clear hcell hcell2;have q:(xs[k].toList==xs[k].toList)=true:=beq_iff_eq.2 rfl;generalize xs[k]=z at c1 c2 q;go_wp2_with fail;go_quiet (fail);go_wp2_with fail;go_roundw
   case rel=>exact ⟨k+1,by omega,by go_num,hb.trans ((below_drewN _ _ _).mono hb.size)⟩
   case measure=>simp [intOf];omega
  ·obtain rfl:k=xs.length:=by omega
   go_wp2_with fail;go_ret;exact ⟨rfl,hb⟩
def RefSwapPost (f t s:ByteArray) (w:World) (e:Ending) (w':World):Prop:=
 (∃x:ByteArray,e=.returned (.tuple #[.string x,.int .i64 (swapE (bl f) (bl t) (bl s))])∧Hid (bl x=swapT (bl f) (bl t) (bl s)))∧Below w.heap.size w w'
theorem RefSwapPost.err {f t s:ByteArray} {w w':World} {c:Nat} {n:Int} (h:Hid (swapE (bl f) (bl t) (bl s)=c+1)) (hn:Hid (((c+1:Nat):Int)=n)) (hb:Below w.heap.size w w'):RefSwapPost f t s w (.returned (.tuple #[.string ⟨#[]⟩,.int .i64 n])) w':=
 ⟨⟨⟨#[]⟩,by rw [h.out,hn.out],by show _=_;unfold swapT;rw [h.out];rfl⟩,hb⟩
theorem RefSwapPost.ok {f t s x:ByteArray} {w w':World} (h:Hid (swapE (bl f) (bl t) (bl s)=0)) (hx:Hid (bl x=swapX (bl f) (bl t) (bl s))) (hb:Below w.heap.size w w'):RefSwapPost f t s w (.returned (.tuple #[.string x,.int .i64 0])) w':=
 ⟨⟨x,by rw [h.out];rfl,by show _=_;unfold swapT;rw [h.out,if_pos rfl];exact hx.out⟩,hb⟩
def RefCleanPost (s:ByteArray) (w:World) (e:Ending) (w':World):Prop:=
 (∃x:ByteArray,e=.returned (.tuple #[.string x,.int .i64 (cleanE (bl s))])∧Hid (bl x=cleanT (bl s)))∧Below w.heap.size w w'
theorem RefCleanPost.err {s:ByteArray} {w w':World} {n:Int} (h:Hid ((cleanE (bl s):Int)=n)) (h0:n≠0) (hb:Below w.heap.size w w'):RefCleanPost s w (.returned (.tuple #[.string ⟨#[]⟩,.int .i64 n])) w':=
 ⟨⟨⟨#[]⟩,by rw [h.out],by show _=_;unfold cleanT;rw [if_neg (by intro e;have:=h.out;rw [e] at this;exact h0 this.symm)];rfl⟩,hb⟩
theorem RefCleanPost.ok {s x:ByteArray} {w w':World} (h:Hid (cleanE (bl s)=0)) (hx:Hid (bl x=[47].intercalate (cleanW [] (cutL 47 (bl s))).2)) (hb:Below w.heap.size w w'):RefCleanPost s w (.returned (.tuple #[.string x,.int .i64 0])) w':=
 ⟨⟨x,by rw [h.out];rfl,by show _=_;unfold cleanT;rw [h.out,if_pos rfl];exact hx.out⟩,hb⟩
def RefStripPost (s:ByteArray) (n:Int) (w:World) (e:Ending) (w':World):Prop:=
 (∃x:ByteArray,e=.returned (.tuple #[.string x,.int .i64 (stripE (bl s) n)])∧Hid (bl x=stripT (bl s) n))∧Below w.heap.size w w'
theorem RefStripPost.err {s:ByteArray} {n:Int} {w w':World} {m:Int} (h:Hid ((stripE (bl s) n:Int)=m)) (h0:m≠0) (hb:Below w.heap.size w w'):RefStripPost s n w (.returned (.tuple #[.string ⟨#[]⟩,.int .i64 m])) w':=
 ⟨⟨⟨#[]⟩,by rw [h.out],by show _=_;unfold stripT;rw [if_neg (by intro e;have:=h.out;rw [e] at this;exact h0 this.symm)];rfl⟩,hb⟩
end Go.Proofs.YtaabgmbjmfjdjaaGreatDoor
