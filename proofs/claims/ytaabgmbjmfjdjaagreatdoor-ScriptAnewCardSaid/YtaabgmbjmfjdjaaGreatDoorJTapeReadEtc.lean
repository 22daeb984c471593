import Derived.Test.YtaabgmbjmfjdjaaGreatDoorJShopAgainEtc
import Derived.Test.YtaabgmbjmfjdjaaGreatDoorJRowedEtc
import Derived.Test.YtaabgmbjmfjdjaaGreatDoorJSummed
import Derived.Lib.OwnKind
import Derived.Test.YtaabgmbjmfjdjaaGreatDoorJToldEtc
import Derived.Test.YtaabgmbjmfjdjaaGreatDoorJPathedEtc
import Derived.Test.YtaabgmbjmfjdjaaGreatDoorJRefLinkUp
import Derived.Test.YtaabgmbjmfjdjaaGreatDoorJMirrorPlainEtc
import Derived.Test.YtaabgmbjmfjdjaaGreatDoorJHeldUp
import Derived.Test.YtaabgmbjmfjdjaaGreatDoorJPlainly
namespace Go.Proofs.YtaabgmbjmfjdjaaGreatDoor
open Go Go.RowKit
set_option maxHeartbeats 2000000
set_option maxRecDepth 100000
def TEnv (w:World):Prop:=AtoiEnv w∧PowTab w∧∃m,w.cell? ⟨14,0,none⟩=some (.int .i64 m)
theorem TEnv.ext {w w':World} (h:TEnv w) (hb:Below w.heap.size w w'):TEnv w':=by
 obtain ⟨h1,h2,m,h3⟩:=h;exact ⟨h1.ext hb,h2.ext hb,m,(hb.cell (show (⟨14,0,none⟩:Addr).block<w.heap.size from Lib.lt_of_cell h3)).trans h3⟩
theorem cut_len (l sep:List UInt8):(Lib.cut l sep).1.length≤l.length∧(Lib.cut l sep).2.1.length≤l.length:=by
 unfold Lib.cut;split
 ·constructor
  ·simp;omega
  ·simp
 ·simp
theorem cutSep_any (s sep:ByteArray) (w:World) (hs:s.size≤100000000) (hm:∃m,w.cell? ⟨14,0,none⟩=some (.int .i64 m)):
  Calls Tryz.prog 109 #[.string s,.string sep] w fun e w'=>
   (∃(a b:ByteArray) (c:Bool),e=.returned (.tuple #[.string a,.string b,.bool c])∧Hid (Lib.cut (bl s) (bl sep)=(bl a,bl b,c))∧a.size≤s.size∧b.size≤s.size)∧Below w.heap.size w w':=by
 obtain ⟨m,hm⟩:=hm;refine (Tryz.strings_Cut s sep m w (by omega) hm).mono ?_;rintro e w' ⟨rfl,n,rfl⟩;have h:=cut_len (bl s) (bl sep);rw [bl_length] at h;exact ⟨⟨_,_,_,rfl,rfl,by rw [←bl_length];exact h.1,by rw [←bl_length];exact h.2⟩,below_drewN _ _ _⟩
theorem record_any (s:ByteArray) (w:World) (hs:s.size≤100000000) (ht:PowTab w):
  Calls Tryz.prog 67 #[.string s] w fun e w'=>(∃x:ByteArray,e=.returned (.string x)∧Hid (bl x=recL (bl s))∧x.size≤s.size+24)∧Below w.heap.size w w':=by
 have hsl:(bl s).length=s.size:=bl_length s;go_enter Tryz.func67,Tryz.ntmps67;go_wp2_with fail;refine (itoa_any s.size (by omega) w ht).mono ?_;rintro e w1 ⟨t,rfl,HT,hts,hb⟩;go_wp2_with fail;go_ret;refine ⟨⟨_,rfl,?_,?_⟩,hb⟩
 ·show _=_;unfold recL;rw [hsl,←HT.out];simp [bl]
 ·simp only [ByteArray.size_append];have e1:(⟨#[58]⟩:ByteArray).size=1:=rfl;have e2:(⟨#[10,46]⟩:ByteArray).size=2:=rfl;omega
def OneTold (o:Option (List UInt8)) (x:ByteArray) (ok:Bool):Prop:=(o=some (bl x)∧ok=true)∨(o=none∧ok=false∧x=⟨#[]⟩)
def OnePostT (b:ByteArray) (w:World) (e:Ending) (w':World):Prop:=
 ∃(x:ByteArray) (ok:Bool),e=.returned (.tuple #[.string x,.bool ok])∧Hid (OneTold (oneL (bl b)) x ok)∧x.size≤b.size∧Below w.heap.size w w'
theorem one_no {l a b:List UInt8} (h:Lib.cut l [58]=(a,b,true)) (hn:numOf a 9=none):oneL l=none:=by
 unfold oneL;rw [h];simp only [if_true];rw [hn]
theorem one_no2 {l a b:List UInt8} {n:Nat} (h:Lib.cut l [58]=(a,b,true)) (hn:numOf a 9=some n) (hx:¬(n≤20000∧n+2≤b.length∧(b.drop n).take 2=[10,46])):oneL l=none:=by
 unfold oneL;rw [h];simp only [if_true];rw [hn];simp only;rw [if_neg hx]
theorem one_yes {l a b:List UInt8} {n:Nat} (h:Lib.cut l [58]=(a,b,true)) (hn:numOf a 9=some n) (h1:n≤20000) (h2:n+2≤b.length) (h3:(b.drop n).take 2=[10,46]):oneL l=some (b.take n):=by
 unfold oneL;rw [h];simp only [if_true];rw [hn];simp only;rw [if_pos ⟨h1,h2,h3⟩]
theorem tapeOne_any (s:ByteArray) (w:World) (hs:s.size≤100000000) (hE:TEnv w):
  Calls Tryz.prog 212 #[.string s] w (OnePostT s w):=by
 obtain ⟨ha0,ht0,hm0⟩:=hE;go_enter Tryz.func212,Tryz.ntmps212;go_wp2_with fail;refine (cutSep_any s ⟨#[58]⟩ w hs hm0).mono ?_;rintro e w1 ⟨⟨d,r,c,rfl,HC,hd,hr⟩,hb1⟩;have ha:=ha0.ext hb1;have ht:=ht0.ext hb1;clear ha0 ht0 hm0;go_wp2_with fail;refine (atoi_any d w1 (by omega) ha).mono ?_;rintro e w2 (⟨v,rfl,HV,hb⟩|⟨v,te,a,rfl,HV,hb⟩)
 ·have hT1:=ht.ext hb;have hv1:v≤9223372036854775807:=(Lib.atoiAll_bounds HV.out).2;have hbb:=hb1.trans (hb.mono hb1.size);clear ha ht
  cases c with
  |false=>
   have H:Hid (oneL (bl s)=none):=by show _=_;unfold oneL;rw [show Lib.cut (bl s) [58]=_ from HC.out];simp
   clear HC HV;go_wp2_with fail;go_ret2;exact ⟨_,_,rfl,.inr ⟨H.out,rfl,rfl⟩,by show 0≤_;omega,hbb⟩
  |true=>
   by_cases hl:d.size≤9
   ·by_cases hv:0≤v
    ·obtain ⟨n,rfl⟩:∃n:Nat,v=n:=⟨v.toNat,by omega⟩;go_wp2_with fail;refine (itoa_any n (by omega) w2 hT1).mono ?_;rintro e w3 ⟨t,rfl,HT,_,hb2⟩;have hbc:=hbb.trans (hb2.mono hbb.size);clear hb hb1 hb2 hbb hT1;by_cases hts:t=d
     ·have q:(t.toList==d.toList)=true:=str_same d t hts;have HN:Hid (numOf (bl d) 9=some n):=by
       have:bl d=Lib.decDigits n:=by rw [←hts];exact HT.out
       show _=_;rw [this];exact numOf_dec n 9 (by rw [←this,bl_length];exact hl)
      clear HV HT;have hrl:(bl r).length=r.size:=bl_length r;by_cases h1:n≤20000
      ·by_cases h2:n+2≤r.size
       ·have sl:=slice_nat r n ((n:Int)+2) n (n+2) (by omega) h2 rfl (by omega);have hnr:n≤r.size:=by omega
        by_cases h3:r.extract n (n+2)=⟨#[10,46]⟩
        ·have H:Hid (oneL (bl s)=some (bl (r.extract 0 n))):=by
          have hz:((bl r).drop n).take 2=[10,46]:=by
           have:=congrArg bl h3;rw [bl_extract] at this;rw [show n+2-n=2 by omega] at this;exact this
          show _=_;rw [bl_extract,List.drop_zero,Nat.sub_zero];exact one_yes HC.out HN.out h1 (by omega) hz
         have q2:((r.extract n (n+2)).toList== [10,46])=true:=by
          have h:=str_same _ _ h3;rw [Lib.toList_data ⟨#[10,46]⟩] at h;exact h
         clear HC HN h3;have hx:(r.extract 0 n).size≤s.size:=by simp;omega
         go_wp2_with fail;go_ret2;exact ⟨_,_,rfl,.inl ⟨H.out,rfl⟩,hx,hbc⟩
        ·have H:Hid (oneL (bl s)=none):=one_no2 HC.out HN.out (fun ⟨_,_,hz⟩=>h3 (bl_inj (by rw [bl_extract,show n+2-n=2 by omega];exact hz)));have q2:((r.extract n (n+2)).toList== [10,46])=false:=by
          have h:=str_other _ _ h3;rw [Lib.toList_data ⟨#[10,46]⟩] at h;exact h
         clear HC HN h3;go_wp2_with fail;go_ret2;exact ⟨_,_,rfl,.inr ⟨H.out,rfl,rfl⟩,by show 0≤_;omega,hbc⟩
       ·have H:Hid (oneL (bl s)=none):=one_no2 HC.out HN.out (fun ⟨_,hz,_⟩=>h2 (by omega));clear HC HN;go_wp2_with fail;go_ret2;exact ⟨_,_,rfl,.inr ⟨H.out,rfl,rfl⟩,by show 0≤_;omega,hbc⟩
      ·have H:Hid (oneL (bl s)=none):=one_no2 HC.out HN.out (fun ⟨hz,_,_⟩=>h1 hz);clear HC HN;go_wp2_with fail;go_ret2;exact ⟨_,_,rfl,.inr ⟨H.out,rfl,rfl⟩,by show 0≤_;omega,hbc⟩
     ·have q:(t.toList==d.toList)=false:=str_other d t hts;have H:Hid (oneL (bl s)=none):=one_no HC.out (num_no (by decide) fun m h1 h2 h3=>hts (by
       have h4:=HV.out;rw [h3] at h4;have h5:(m:Int)=n:=by injection h4
       have h6:m=n:=by omega
       rw [h6] at h1;exact bl_inj (by rw [HT.out,h1])))
      clear HC HV HT;go_wp2_with fail;go_ret2;exact ⟨_,_,rfl,.inr ⟨H.out,rfl,rfl⟩,by show 0≤_;omega,hbc⟩
    ·have H:Hid (oneL (bl s)=none):=one_no HC.out (num_no (by decide) fun m h1 h2 h3=>by
      have h4:=HV.out;rw [h3] at h4;have h5:(m:Int)=v:=by injection h4
      omega)
     clear HC HV;go_wp2_with fail;go_ret2;exact ⟨_,_,rfl,.inr ⟨H.out,rfl,rfl⟩,by show 0≤_;omega,hbb⟩
   ·have H:Hid (oneL (bl s)=none):=one_no HC.out (num_no (by decide) fun m h1 h2 h3=>by rw [bl_length] at h2;omega);clear HC HV;go_wp2_with fail;go_ret2;exact ⟨_,_,rfl,.inr ⟨H.out,rfl,rfl⟩,by show 0≤_;omega,hbb⟩
 ·have hbb:=hb1.trans (hb.mono hb1.size);clear ha ht;have H:Hid (oneL (bl s)=none):=by
   cases c with
   |false=>show _=_;unfold oneL;rw [show Lib.cut (bl s) [58]=_ from HC.out];simp
   |true=>exact one_no HC.out (num_no (by decide) fun m h1 h2 h3=>HV.out _ h3)
  clear HC HV
  cases c with
  |false=>
   go_wp2_with fail;go_ret2;exact ⟨_,_,rfl,.inr ⟨H.out,rfl,rfl⟩,by show 0≤_;omega,hbb⟩
  |true=>
   go_wp2_with fail;go_ret2;exact ⟨_,_,rfl,.inr ⟨H.out,rfl,rfl⟩,by show 0≤_;omega,hbb⟩
theorem Tryz.infoStrT:(Tryz.prog.info? 9).map (fun i=>(i.zero,i.size,i.bytes))=some (some (.string ⟨#[]⟩),1,16):=by kernel_rfl
def ReadPostT (l:List UInt8) (w:World) (e:Ending) (w':World):Prop:=
 ∃(v:Value) (zs:List ByteArray) (n:Nat),e=.returned (.tuple #[v,.int .i64 n])∧Hid (w'.ownsRow w.heap.size 9 1 v zs.length (zs.flatMap encStr))∧Hid (zs.map bl=tapeL l)∧Hid (n=(recsL (zs.map bl)).length)∧n≤l.length∧zs.length≤l.length∧Below w.heap.size w w'
theorem read_any (s:ByteArray) (w:World) (hs:s.size≤10000000) (hE:TEnv w):
  Calls Tryz.prog 174 #[.string s] w (ReadPostT (bl s) w):=by
 obtain ⟨i0,hi0,hz0,hz1,hz2⟩:=info_parts Tryz.infoStrT;have HE:=Lib.hid hE;clear hE;have hsl:(bl s).length=s.size:=bl_length s;go_enter Tryz.func174,Tryz.ntmps174;go_wp2_with fail;go_loopw [4,5] (fun v i wr=>∃(k:Nat) (acc:List ByteArray),k≤s.size∧i=.int .i64 k∧acc.length≤k∧Hid (tapeL (bl s)=acc.map bl++tapeL ((bl s).drop k))∧Hid (k=(recsL (acc.map bl)).length)∧
   Hid (wr.ownsRow w.heap.size 9 1 v acc.length (acc.flatMap encStr))∧Below w.heap.size w wr) (fun _ i _=>s.size- (intOf i).toNat)
 case atStart=>exact ⟨0,[],Nat.zero_le _,rfl,Nat.le_refl _,rfl,rfl,World.ownsRow_nil _ _ _ _,Below.refl _ _⟩
 case round=>
  obtain ⟨k,acc,hk,rfl,hacc,HC,HK,HO,hb⟩:=hrel;have sl:=slice_from s k k hk rfl;have hx:(s.extract k s.size).size≤100000000:=by simp;omega
  have hxl:Hid (bl (s.extract k s.size)=(bl s).drop k):=by
   show _=_;rw [bl_extract,List.take_of_length_le (by rw [List.length_drop];omega)]
  go_wp2_with fail;refine (tapeOne_any (s.extract k s.size) _ hx (HE.out.ext hb)).mono ?_;rintro e w2 ⟨x,ok,rfl,HT,hxs,hb2⟩;have hb3:=hb.trans (hb2.mono hb.size);have HO2:=Lib.hid (owns_below HO.out hb2);clear HO;rcases HT.out with ⟨ho,rfl⟩|⟨ho,rfl,rfl⟩
  ·rw [hxl.out] at ho;have h2:=oneL_ne ho;have hx20:x.size≤20000:=by have:=(oneL_inv ho).1;rw [bl_length] at this;exact this
   have HS:=Lib.hid (tapeL_some ho);have hp:=recL_pos (bl x);simp only [List.length_drop] at h2;clear HT hxl ho;go_wp2_with (at_builtin;refine wpList_append_own _ rfl _ _ 22 rfl w.heap.size 9 i0 (.string ⟨#[]⟩) 1 16 Tryz.underlying22 hi0 hz0 hz1 hz2 rfl (by decide) _ _ _ rfl (HO2.out.alloc _) ⟨w2.heap.size,0,none⟩ 1 1 (encStr x) rfl rfl ?c1 ?c2 ?c3 ?c4 ?c5 ?_)
   case c1=>
    intro j u hj
    match j,hj with
    |0,hj=>simp at hj;subst hj;simp [Addr.add]
   case c2=>intro u hu;simp at hu;subst hu;rfl
   case c3=>unfold maxLen;omega
   case c4=>omega
   case c5=>have:=hb3.size;simp;omega
   intro v' w3 hown' hgrow _;have hown2:Hid (w3.ownsRow w.heap.size 9 1 v' (acc++[x]).length ((acc++[x]).flatMap encStr)):=by
    show World.ownsRow _ _ _ _ _ _ _;simpa using hown'
   have hbb:Below w.heap.size w w3:=(hb3.alloc hb3.size _).grown hgrow (by have:=hb3.size;simp;omega) (fun g hg=>(HO2.out.lt g hg).1);have HP:=Lib.hid (HE.out.ext hbb).2.1;clear hown' hgrow HO2 hb3 hb;go_wp2_with fail;refine (record_any x _ (by omega) HP.out).mono ?_;rintro e w4 ⟨⟨y,rfl,HY,hy⟩,hb4⟩;have hbc:=hbb.trans (hb4.mono hbb.size);have hyl:y.size=(recL (bl x)).length:=by rw [←HY.out,bl_length]
   have hown3:=Lib.hid (owns_below hown2.out hb4);clear HY hown2 HP;go_wp2_with fail;go_roundw
   case rel=>
    refine ⟨k+y.size,acc++[x],by omega,by go_num,by simp;omega,?_,?_,hown3,hbc⟩
    ·show _=_;rw [HC.out,HS.out,List.map_append,List.append_assoc,List.drop_drop,hyl];rfl
    ·show _=_;rw [List.map_append,List.map_singleton,recsL_snoc,List.length_append,←HK.out,hyl]
   case measure=>simp [intOf];omega
  ·have HN:Hid (tapeL ((bl s).drop k)=[]):=by rw [hxl.out] at ho;exact tapeL_none ho
   clear HT hxl ho;go_wp2_with fail;go_ret2;exact ⟨_,_,_,rfl,HO2,by show _=_;rw [HC.out,HN.out,List.append_nil],HK,by omega,by omega,hb3⟩
theorem bytesOf (l:List UInt8):bl ⟨l.toArray⟩=l:=by simp [bl]
def AppPost (B b:Nat) (r:List UInt8×Bool×Int×Bool) (v0:Value) (w:World) (e:Ending) (w':World):Prop:=
 e=.returned (if r.2.2.2=true then .nilIface else v0)∧DiskIs w' B b r.1 r.2.1 r.2.2.1∧Onto B w w'
theorem append_any (B b:Nat) (bs:List UInt8) (off:Bool) (c:Int) (s:ByteArray) (v0:Value) (w:World) (h:DiskIs w B b bs off c) (hs:s.size≤20000) (hlen:bs.length+(recL (bl s)).length≤1048576) (hc: -1≤c∧c≤9223372036854775807) (hBw:B≤w.heap.size)
  (hT:PowTab w) (hv:w.cell? ⟨12,0,none⟩=some v0) (hg:12<B):
  Calls Tryz.prog 33 #[.pointer (some ⟨b,0,none⟩),.string s] w (AppPost B b (WroteL bs off c (recL (bl s))) v0 w):=by
 have hD:=Lib.hid h;obtain ⟨hB,v,hb,hbuf⟩:=h;have hbw:b<w.heap.size:=(Array.getElem?_eq_some_iff.1 hb).1;have hvl:∃ao cap,v=.slice ao bs.length cap:=by
  rcases hbuf with ⟨rfl,h0⟩|⟨g,cap,cur,lo,hi,rfl,_⟩
  ·have:bs=[]:=by
    have:=congrArg List.length h0;rw [byteCells_length] at this;exact List.eq_nil_of_length_eq_zero this
   subst this;exact ⟨_,_,rfl⟩
  ·exact ⟨_,_,by rw [byteCells_length]⟩
 obtain ⟨ao,cap,rfl⟩:=hvl;have c0:w.cell? ⟨b,0,none⟩=some (.slice ao bs.length cap):=by rw [Lib.cell_of_heap hb];rfl
 have CR:Hid (∀W,Below w.heap.size w W→(W.cell? ⟨b,0,none⟩=some (.slice ao bs.length cap))∧Calls Tryz.prog 67 #[.string s] W fun e w'=>(∃x:ByteArray,e=.returned (.string x)∧Hid (bl x=recL (bl s))∧x.size=(recL (bl s)).length)∧Below w.heap.size w w'):=by
  intro W hW;refine ⟨(hW.cell (p:=⟨b,0,none⟩) hbw).trans c0,(record_any s W (by omega) (hT.ext hW)).mono ?_⟩;rintro e w' ⟨⟨x,h1,h2,_⟩,h3⟩;exact ⟨⟨x,h1,h2,by rw [←h2.out,bl_length]⟩,hW.trans (h3.mono hW.size)⟩
 clear hbuf hb;have hdr:Below w.heap.size w w.drew:=below_drewN _ _ 1;have hR:=recL_pos (bl s);have hbd:DiskIs w B b bs off c:=hD.out;go_enter Tryz.func33,Tryz.ntmps33;go_wp2_with fail;have C1:=Lib.hid (CR.out w.drew hdr).2;go_region_with (first
  |(go_at_call 67;refine C1.out.mono ?_;clear C1;rintro e w2 ⟨⟨x,rfl,HX,hx⟩,hb2⟩;have c2:=(CR.out w2 hb2).1))
 all_goals
  have C2:=Lib.hid (CR.out w2 hb2).2;have hI:¬(IntKind.i64.wrap ((1048576:Int)- (bs.length:Int))<((recL (bl s)).length:Int)):=by rw [IntWalk.i64_in _ (by omega)];omega
  clear CR;go_wp2_with fail;refine C2.out.mono ?_;clear C2;rintro e w3 ⟨⟨y,rfl,HY,hy⟩,hb3⟩;have C3:=Lib.hid (diskWrite_any B b bs off c y v0 w3 (hbd.below hb3) (by omega) hc (Nat.le_trans hBw hb3.size) ((hb3.cell (p:=⟨12,0,none⟩) (show 12<w.heap.size by omega)).trans hv) hg);clear hD hbd hv c2 c0;go_wp2_with fail;refine C3.out.mono ?_;clear C3;rintro e w4 ⟨bs',off',c',ok,HW,rfl,HD,HO⟩;have HW2:Hid (WroteL bs off c (recL (bl s))=(bs',off',c',ok)):=by show _=_;rw [←HY.out];exact HW.out
  have HO2:=(Onto.of hb3 hBw).trans HO;clear HW HY HX
  cases ok
  all_goals
   dsimp only [if_true,if_false,Bool.false_eq_true];go_wp2_with fail;go_ret;have HW3:=HW2.out;unfold AppPost;rw [HW3];exact ⟨rfl,HD,HO2⟩
theorem bound_any (b:Nat) (s:ByteArray) (v0:Value) (w:World) (hs:20000<s.size) (hv:w.cell? ⟨0,0,none⟩=some v0):
  Calls Tryz.prog 33 #[.pointer (some ⟨b,0,none⟩),.string s] w fun e w'=>e=.returned v0∧w=w':=by
 go_enter Tryz.func33,Tryz.ntmps33;go_wp2_with fail;go_ret;exact ⟨rfl,rfl⟩
theorem owns_base {base B:Nat} {e:TypeId} {size:Nat} {w:World} {v:Value} {n:Nat} {xs:List Value} (h:w.ownsRow base e size v n xs) (hB:B≤base):w.ownsRow B e size v n xs:=by
 refine ⟨h.1,?_⟩;rcases h.2 with h0|⟨g,cap,cur,hv,hb,hr⟩
 ·exact .inl h0
 ·exact .inr ⟨g,cap,cur,hv,Nat.le_trans hB hb,hr⟩
theorem Buf.cut {w:World} {B:Nat} {v:Value} {xs:List Value} (h:Buf w B v xs) (n:Nat) (hn:n≤xs.length):
  ∃ao cap,v=.slice ao xs.length cap∧xs.length≤cap∧(ao=none→cap=0)∧Buf w B (.slice ao n n) (xs.take n):=by
 rcases h with ⟨rfl,rfl⟩|⟨g,cap,cur,lo,hi,rfl,h1,h2,h3,h4,h5,h6,h7⟩
 ·obtain rfl:n=0:=by simpa using hn
  exact ⟨none,0,rfl,Nat.le_refl _,fun _=>rfl,.inl ⟨rfl,rfl⟩⟩
 ·have hl:(xs.take n).length=n:=by rw [List.length_take];omega
  exact ⟨some ⟨g,0,none⟩,cap,rfl,h4,(fun h=>by cases h),.inr ⟨g,n,cur,lo,hi,by rw [hl],h1,h2,h3,by rw [hl];exact Nat.le_refl _,by omega,by omega,by rw [hl,←h7,List.take_take];congr 1;omega⟩⟩
theorem recover_any (B b:Nat) (bs:List UInt8) (off:Bool) (c:Int) (w:World) (h:DiskIs w B b bs off c) (hlen:bs.length≤1048576) (hBw:B≤w.heap.size) (hEB:∀W,Below B w W→TEnv W):
  Calls Tryz.prog 131 #[.pointer (some ⟨b,0,none⟩)] w fun e w'=>
   ∃(v:Value) (zs:List ByteArray),e=.returned (.tuple #[v,.nilIface])∧Hid (w'.ownsRow B 9 1 v zs.length (zs.flatMap encStr))∧Hid (zs.map bl=tapeL bs)∧zs.length≤bs.length∧DiskIs w' B b (recsL (tapeL bs)) false (-1)∧Onto B w w':=by
 have C:=Lib.hid (diskOn_any B b bs off c w h);clear h;go_enter Tryz.func131,Tryz.ntmps131;go_wp2_with fail;refine C.out.mono ?_;clear C;rintro e w1 ⟨rfl,⟨hB,v,hb,hbuf⟩,HO1⟩;have hT:=hEB w1 HO1.below;have hB1:B≤w1.heap.size:=Nat.le_trans hBw HO1.below.size;have hcl:(cellsL bs).length=bs.length:=byteCells_length bs;have c0:w1.cell? ⟨b,0,none⟩=some v:=by rw [Lib.cell_of_heap hb];rfl
 have hcv:=convert_buf hbuf;have hbw:b<w1.heap.size:=(Array.getElem?_eq_some_iff.1 hb).1;have CR:=Lib.hid (read_any ⟨bs.toArray⟩ w1 (by show bs.toArray.size≤_;simp;omega) hT);rw [bytesOf] at CR;have HC:=Lib.hid (fun n hn=>hbuf.cut n hn);obtain ⟨ao,cap,rfl⟩:∃ao cap,v=.slice ao bs.length cap:=by
  obtain ⟨ao,cap,h1,_⟩:=hbuf.cut 0 (Nat.zero_le _);exact ⟨ao,cap,by rw [h1,hcl]⟩
 go_wp2_with fail;refine CR.out.mono ?_;clear CR;rintro e w2 ⟨v2,zs,n,rfl,HZ,HM,HN,hn,hzl,hb2⟩;obtain ⟨ao3,cap3,e3,hcap,hao,hbuf2⟩:=HC.out n (by omega);rw [hcl] at e3 hcap;injection e3 with e3 e4 e5
 subst e3;subst e5;clear HC;have d0:w2.cell? ⟨b,0,none⟩=some (.slice ao bs.length cap):=(hb2.cell (p:=⟨b,0,none⟩) hbw).trans c0;have hb3:w2.heap[b]? =_:=(hb2.block b hbw).trans hb;have f0:w2.frozen? ⟨b,0,none⟩=false:=Lib.frozen_of_heap hb3 0;clear c0 hcv;obtain ⟨q1,q2,q3⟩:=disk_put hB hb3 0 (.slice ao n n);have hbuf3:=q3 _ _ (hbuf2.below hb2);go_wp2_with fail;go_ret2;have hW2:=q2.below.size;refine ⟨_,zs,rfl,?_,HM,hzl,⟨hB,_,q1,?_⟩,(HO1.trans (Onto.of hb2 hB1)).trans q2⟩
 ·exact owns_base (q2.owns HZ.out (by decide) (by decide)) hB1
 ·have:(cellsL bs).take n=cellsL (recsL (tapeL bs)):=by
   show (Lib.byteCells bs).take n=Lib.byteCells (recsL (tapeL bs));unfold Lib.byteCells;rw [←List.map_take,HN.out,HM.out,tapeL_prefix]
  rw [←this];exact hbuf3
def NoColon (s:ByteArray) (k q:Nat):Prop:=(58:UInt8)∉((bl s).drop k).take (q-k)
theorem NoColon.next {s:ByteArray} {k q:Nat} (h:NoColon s k q) (hk:k≤q) (hq:q<s.size) (hc:s[q]≠58):NoColon s k (q+1):=by
 unfold NoColon at h⊢;have hql:q-k<((bl s).drop k).length:=by rw [List.length_drop,bl_length];omega
 rw [show q+1-k=(q-k)+1 by omega,List.take_add_one,List.getElem?_eq_getElem hql];intro hm;rcases List.mem_append.1 hm with hm|hm
 ·exact h hm
 ·simp only [Option.toList_some,List.mem_singleton] at hm;rw [List.getElem_drop] at hm;have:(bl s)[k+(q-k)]'(by rw [bl_length];omega)=s[q]:=by
   have e:k+(q-k)=q:=by omega
   simp only [e];rfl
  rw [this] at hm;exact hc hm.symm
structure But (m:Nat) (w w':World):Prop where
 os:w'.os=w.os
 tape:w'.tape=w.tape
 output:w'.output=w.output
 size:w.heap.size≤w'.heap.size
 block:∀k,k<w.heap.size→k≠m→w'.heap[k]? =w.heap[k]?
theorem But.refl (m:Nat) (w:World):But m w w:=⟨rfl,rfl,rfl,Nat.le_refl _,fun _ _ _=>rfl⟩
theorem But.trans {m:Nat} {a b c:World} (h:But m a b) (k:But m b c):But m a c:=
 ⟨k.os.trans h.os,k.tape.trans h.tape,k.output.trans h.output,Nat.le_trans h.size k.size,fun i hi hm=>(k.block i (Nat.lt_of_lt_of_le hi h.size) hm).trans (h.block i hi hm)⟩
theorem But.of {m:Nat} {w w':World} (h:Below w.heap.size w w'):But m w w':=⟨h.os,h.tape,h.output,h.size,fun k hk _=>h.block k hk⟩
theorem But.below {m B:Nat} {w w':World} (h:But m w w') (hB:B≤m) (hw:B≤w.heap.size):Below B w w':=⟨h.os,h.tape,h.output,h.size,fun k hk=>h.block k (by omega) (by omega)⟩
theorem But.cell {m:Nat} {w w':World} (h:But m w w') {p:Addr} (hp:p.block<w.heap.size) (hm:p.block≠m):w'.cell? p=w.cell? p:=by
 unfold World.cell?;rw [h.block p.block hp hm]
def TapeEnv (w:World):Prop:=TEnv w∧∃te pe,w.cell? ⟨12,0,none⟩=some (.iface te pe)
theorem TapeEnv.ext {w w':World} (h:TapeEnv w) (hb:Below w.heap.size w w'):TapeEnv w':=by
 obtain ⟨h1,te,pe,h2⟩:=h;exact ⟨h1.ext hb,te,pe,(hb.cell (show (⟨12,0,none⟩:Addr).block<w.heap.size from Lib.lt_of_cell h2)).trans h2⟩
theorem Onto.keeps {B:Nat} {w w':World} (h:Onto B w w'):Keeps TapeRow B w w':=⟨h.below,h.keep⟩
theorem But.keeps {K:Obj→Prop} {m B:Nat} {w w':World} {o:Obj} (h:But m w w') (hB:B≤m) (hw:B≤w.heap.size) (ho:w.heap[m]? =some o) (hK:K o):Keeps K B w w':=by
 refine ⟨h.below hB hw,fun k o' hk hn=>?_⟩;by_cases he:k=m
 ·subst he;rw [ho] at hk
  cases hk;exact absurd hK hn
 ·rw [h.block k (Array.getElem?_eq_some_iff.1 hk).1 he];exact hk
def TapeIs (w:World) (B b:Nat) (t:TapeS):Prop:=DiskIs w B b t.bytes t.off t.cut∧t.bytes.length≤1048576∧-1≤t.cut∧t.cut≤9223372036854775807
theorem TapeIs.below {w w':World} {B b:Nat} {t:TapeS} (h:TapeIs w B b t) (hb:Below w.heap.size w w'):TapeIs w' B b t:=⟨h.1.below hb,h.2⟩
def TAppPost (E:Nat→Addr) (B b:Nat) (r:Nat×TapeS) (w:World) (e:Ending) (w':World):Prop:=
 e=.returned (errV E r.1)∧TapeIs w' B b r.2∧Keeps TapeRow B w w'
theorem WroteL_len (bs:List UInt8) (off:Bool) (c:Int) (r:List UInt8):(WroteL bs off c r).1.length≤bs.length+r.length:=by
 unfold WroteL;split
 ·exact Nat.le_add_right _ _
 ·split
  ·show (bs++r.take c.toNat).length≤_;rw [List.length_append,List.length_take];omega
  ·show (bs++r).length≤_;rw [List.length_append];omega
theorem WroteL_cut (bs:List UInt8) (off:Bool) (c:Int) (r:List UInt8) (h: -1≤c∧c≤9223372036854775807): -1≤(WroteL bs off c r).2.2.1∧(WroteL bs off c r).2.2.1≤9223372036854775807:=by
 unfold WroteL;split
 ·exact h
 ·split
  ·exact h
  ·show-1≤(if 0≤c then c-r.length else c)∧(if 0≤c then c-r.length else c)≤9223372036854775807;split<;>omega
theorem tapeFull_any (B b:Nat) (bs:List UInt8) (off:Bool) (c:Int) (s:ByteArray) (v0:Value) (w:World) (h:DiskIs w B b bs off c) (hs:s.size≤20000) (hb0:bs.length≤1048576) (hlen:1048576<bs.length+(recL (bl s)).length)
  (hT:PowTab w) (hv:w.cell? ⟨7,0,none⟩=some v0):
  Calls Tryz.prog 33 #[.pointer (some ⟨b,0,none⟩),.string s] w fun e w'=>e=.returned v0∧Below w.heap.size w w':=by
 obtain ⟨hB,v,hb,hbuf⟩:=h;have hbw:b<w.heap.size:=(Array.getElem?_eq_some_iff.1 hb).1;have hvl:∃ao cap,v=.slice ao bs.length cap:=by
  rcases hbuf with ⟨rfl,h0⟩|⟨g,cap,cur,lo,hi,rfl,_⟩
  ·have:bs=[]:=by
    have:=congrArg List.length h0;rw [byteCells_length] at this;exact List.eq_nil_of_length_eq_zero this
   subst this;exact ⟨_,_,rfl⟩
  ·exact ⟨_,_,by rw [byteCells_length]⟩
 obtain ⟨ao,cap,rfl⟩:=hvl;have c0:w.cell? ⟨b,0,none⟩=some (.slice ao bs.length cap):=by rw [Lib.cell_of_heap hb];rfl
 have CR:Hid (∀W,Below w.heap.size w W→(W.cell? ⟨b,0,none⟩=some (.slice ao bs.length cap))∧Calls Tryz.prog 67 #[.string s] W fun e w'=>(∃x:ByteArray,e=.returned (.string x)∧Hid (bl x=recL (bl s))∧x.size=(recL (bl s)).length)∧Below w.heap.size w w'):=by
  intro W hW;refine ⟨(hW.cell (p:=⟨b,0,none⟩) hbw).trans c0,(record_any s W (by omega) (hT.ext hW)).mono ?_⟩;rintro e w' ⟨⟨x,h1,h2,_⟩,h3⟩;exact ⟨⟨x,h1,h2,by rw [←h2.out,bl_length]⟩,hW.trans (h3.mono hW.size)⟩
 have KV:Hid (∀W,Below w.heap.size w W→W.cell? ⟨7,0,none⟩=some v0):=fun W hW=>(hW.cell (p:=⟨7,0,none⟩) (Lib.lt_of_cell hv)).trans hv
 have hrl:(recL (bl s)).length≤30000:=by
  have h1:=recL_len (bl s);have h2:=decDigits_len_le 9 (bl s).length (by rw [bl_length];omega);rw [bl_length] at h1 h2;omega
 clear hbuf hb hv;have hdr:Below w.heap.size w w.drew:=below_drewN _ _ 1;go_enter Tryz.func33,Tryz.ntmps33;go_wp2_with fail;have C1:=Lib.hid (CR.out w.drew hdr).2;go_region_with (first
  |(go_at_call 67;refine C1.out.mono ?_;clear C1;rintro e w2 ⟨⟨x,rfl,HX,hx⟩,hb2⟩;have c2:=(CR.out w2 hb2).1))
 all_goals
  have v2:=KV.out w2 hb2;have hI:IntKind.i64.wrap ((1048576:Int)- (bs.length:Int))<((recL (bl s)).length:Int):=by rw [IntWalk.i64_in _ (by omega)];omega
  clear CR KV;go_wp2_with fail;go_ret;exact ⟨rfl,hb2⟩
theorem tapeApp_any {E:Nat→Addr} (B b:Nat) (t:TapeS) (s:ByteArray) (w:World) (h:TapeIs w B b t) (hBw:B≤w.heap.size) (hT:PowTab w) (hE:Env E w) (hG:∀k,k<13→gE k<B):
  Calls Tryz.prog 33 #[.pointer (some ⟨b,0,none⟩),.string s] w (TAppPost E B b (appT t (bl s)) w):=by
 obtain ⟨hD,hl,hc⟩:=id h;have hsl:(bl s).length=s.size:=bl_length s;unfold appT;by_cases h1:20000<(bl s).length
 ·rw [if_pos h1];refine (bound_any b s (sentV E 1) w (by omega) (hE.err 1 (by decide))).mono ?_;rintro e w' ⟨rfl,rfl⟩;exact ⟨rfl,h,Keeps.refl _ _ _⟩
 ·rw [if_neg h1];by_cases h2:1048576<t.bytes.length+(recL (bl s)).length
  ·rw [if_pos h2];refine (tapeFull_any B b t.bytes t.off t.cut s (sentV E 7) w hD (by omega) hl h2 hT (hE.err 7 (by decide))).mono ?_;rintro e w' ⟨rfl,hb⟩;exact ⟨rfl,h.below hb,Keeps.of hb hBw⟩
  ·rw [if_neg h2];refine (append_any B b t.bytes t.off t.cut s (sentV E 12) w hD (by omega) (by omega) hc hBw hT (hE.err 12 (by decide)) (hG 12 (by decide))).mono ?_;rintro e w' ⟨rfl,hD2,hO⟩;have hwl:=WroteL_len t.bytes t.off t.cut (recL (bl s));refine ⟨?_,⟨hD2,by show (WroteL _ _ _ _).1.length≤_;omega,WroteL_cut _ _ _ _ hc⟩,hO.keeps⟩;by_cases h3:(WroteL t.bytes t.off t.cut (recL (bl s))).2.2.2=true
   ·rw [if_pos h3,if_pos h3];rfl
   ·rw [if_neg h3,if_neg h3];rfl
end Go.Proofs.YtaabgmbjmfjdjaaGreatDoor
