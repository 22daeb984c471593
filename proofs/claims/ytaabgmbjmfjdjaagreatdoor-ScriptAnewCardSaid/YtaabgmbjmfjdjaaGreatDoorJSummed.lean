import Derived.Test.YtaabgmbjmfjdjaaGreatDoorProg
import Derived.Test.YtaabgmbjmfjdjaaGreatDoorJPlainly
import Derived.Lib.Hide
import Derived.IntWalk
import Derived.Test.YtaabgmbjmfjdjaaGreatDoorJRowedEtc
import Derived.Test.YtaabgmbjmfjdjaaGreatDoorJShelf
import Derived.Test.YtaabgmbjmfjdjaaGreatDoorJErrors
import Derived.Deep.QuietTactic
import Derived.BigQuiet
namespace Go.Proofs.YtaabgmbjmfjdjaaGreatDoor
open Go Go.RowKit
set_option maxHeartbeats 1000000
set_option maxRecDepth 100000
theorem sumFrom_step (s:ByteArray) (k n:Nat) (h:k<s.size):sumFrom n ((bl s).drop k)=sumFrom ((n*263+s[k].toNat+1)%sM) ((bl s).drop (k+1)):=by
 rw [drop_cons s k h];rfl
theorem sumOf_any (s:ByteArray) (w:World) (hs:s.size≤9223372036854775807):
  Calls Tryz.prog 116 #[.string s] w fun e w'=>e=.returned (.int .i64 (sumL (bl s):Nat))∧w=w':=by
 go_enter Tryz.func116,Tryz.ntmps116
 go_wp2
 go_loop [3,7] (fun n i=>∃k m:Nat,k≤s.size∧m<1000000007∧i=.int .i64 k∧n=.int .i64 m∧Hid (sumFrom m ((bl s).drop k)=sumL (bl s))) (fun _ i=>s.size- (intOf i).toNat)
 case atStart=>exact ⟨0,0,Nat.zero_le _,by decide,rfl,rfl,rfl⟩
 case round=>
  obtain ⟨k,m,hk,hm,rfl,rfl,H⟩:=hrel;by_cases hlt:k<s.size
  ·have H2:Hid (sumFrom ((m*263+s[k].toNat+1)%sM) ((bl s).drop (k+1))=sumL (bl s)):=by
    show _=_;rw [←sumFrom_step s k m hlt];exact H.out
   have hb:=s[k].toNat_lt;clear H
   go_wp2
   go_round
   case rel=>exact ⟨k+1,(m*263+s[k].toNat+1)%1000000007,by omega,by omega,by go_num,by go_num,H2⟩
   case measure=>simp [intOf];omega
  ·have e:sumFrom m ((bl s).drop k)=m:=by rw [drop_nil s k (by omega)];rfl
   have E:=Lib.hid e;clear e
   go_wp2
   go_ret;rw [←H.out,E.out];exact ⟨rfl,rfl⟩
def rightB (i:Int):Bool:=decide (0≤i)&&decide (i<1000000007)
theorem rightB_iff (i:Int):rightB i=true↔0≤i∧i<1000000007:=by simp [rightB]
theorem right_any (i:Int) (w:World):Calls Tryz.prog 117 #[.int .i64 i] w fun e w'=>e=.returned (.bool (rightB i))∧w=w':=by
 go_enter Tryz.func117,Tryz.ntmps117;by_cases h0:0≤i
 ·by_cases h1:i<1000000007
  ·have e:rightB i=true:=(rightB_iff i).2 ⟨h0,h1⟩;rw [e];go_wp2;go_ret;exact ⟨rfl,rfl⟩
  ·have e:rightB i=false:=by simp [rightB,h1]
   rw [e];go_wp2;go_ret;exact ⟨rfl,rfl⟩
 ·have e:rightB i=false:=by simp [rightB,h0]
  rw [e];go_wp2;go_ret;exact ⟨rfl,rfl⟩
theorem isSum_any (i:Int) (w:World):Calls Tryz.prog 18 #[.int .i64 i] w fun e w'=>e=.returned (.bool (rightB i))∧w=w':=by
 go_enter Tryz.func18,Tryz.ntmps18;by_cases h0:0≤i
 ·by_cases h1:i<1000000007
  ·have e:rightB i=true:=(rightB_iff i).2 ⟨h0,h1⟩;rw [e];go_wp2;go_ret;exact ⟨rfl,rfl⟩
  ·have e:rightB i=false:=by simp [rightB,h1]
   rw [e];go_wp2;go_ret;exact ⟨rfl,rfl⟩
 ·have e:rightB i=false:=by simp [rightB,h0]
  rw [e];go_wp2;go_ret;exact ⟨rfl,rfl⟩
def PowInv (out x n N:Nat):Prop:=(out*x ^ n)%sM=powM N
theorem PowInv.even {out x n N:Nat} (h:PowInv out x n N) (h1:¬n%2=1):PowInv out (x*x%sM) (n/2) N:=by
 unfold PowInv at h⊢;rw [Nat.mul_mod,pow_half x n,if_neg h1,Nat.mul_one,←Nat.mul_mod] at h;exact h
theorem PowInv.start (N:Nat):PowInv 1 263 N N:=by unfold PowInv powM;rw [Nat.one_mul]
theorem PowInv.end {out x N:Nat} (h:PowInv out x 0 N) (ho:out<sM):out=powM N:=by
 unfold PowInv at h;rw [Nat.pow_zero,Nat.mul_one,Nat.mod_eq_of_lt ho] at h;exact h
def ErrIn (w:World) (g:Nat):Prop:=∃ev,w.cell? ⟨g,0,none⟩=some ev∧(ev=.nilIface∨∃te pe,ev=.iface te pe)
def AtoiEnv (w:World):Prop:=ErrIn w 18∧ErrIn w 19
theorem ErrIn.ext {w w':World} {g:Nat} (h:ErrIn w g) (hb:Below w.heap.size w w'):ErrIn w' g:=by
 obtain ⟨ev,h1,h2⟩:=h;exact ⟨ev,(hb.cell (show (⟨g,0,none⟩:Addr).block<w.heap.size from Lib.lt_of_cell h1)).trans h1,h2⟩
theorem AtoiEnv.ext {w w':World} (h:AtoiEnv w) (hb:Below w.heap.size w w'):AtoiEnv w':=⟨h.1.ext hb,h.2.ext hb⟩
theorem atoi_any (s:ByteArray) (w:World) (hs:s.size≤281474976710656) (ha:AtoiEnv w):
  Calls Tryz.prog 152 #[.string s] w fun e w'=>(∃v:Int,e=.returned (.tuple #[.int .i64 v,.nilIface])∧Hid (Lib.atoiAll (bl s)=.ok v)∧Below w.heap.size w w')∨
   (∃(v:Int) (te:TypeId) (a:Value),e=.returned (.tuple #[.int .i64 v,.iface te a])∧Hid (∀n,Lib.atoiAll (bl s)≠.ok n)∧Below w.heap.size w w'):=by
 obtain ⟨⟨e1,h1,h2⟩,⟨e3,h3,h4⟩⟩:=ha;rcases h:Lib.atoiAll s.data.toList with v|_|_
 ·refine (Any.strconv_Atoi_ok Tryz.laysC172 s (by omega) v h w).mono ?_;rintro e w' ⟨rfl,hw⟩;refine .inl ⟨v,rfl,h,?_⟩;rcases hw with rfl|⟨t,rfl⟩
  ·exact Below.refl _ _
  ·exact Lib.bytesWorld_below _ _ _
 ·refine (Any.strconv_Atoi_syntax Tryz.laysC172 s hs h e1 w h1 h2).mono ?_;rintro e w' ⟨N,rfl,_,_,hb⟩;exact .inr ⟨_,_,_,rfl,fun n hn=>(by rw [show bl s=s.data.toList from rfl,h] at hn;cases hn),hb⟩
 ·refine (Any.strconv_Atoi_range Tryz.laysC172 s hs h e3 w h3 h4).mono ?_;rintro e w' ⟨N,rfl,_,_,hb⟩;exact .inr ⟨_,_,_,rfl,fun n hn=>(by rw [show bl s=s.data.toList from rfl,h] at hn;cases hn),hb⟩
theorem str_same (s t:ByteArray) (h:t=s):(t.toList==s.toList)=true:=by rw [h];exact beq_self_eq_true _
theorem str_other (s t:ByteArray) (h:¬t=s):(t.toList==s.toList)=false:=
 beq_eq_false_iff_ne.2 fun e=>h (bl_inj (by rwa [Lib.toList_data,Lib.toList_data] at e))
theorem num_no {l:List UInt8} {most:Nat} (hm:most≤18) (h:∀m:Nat,l=Lib.decDigits m→l.length≤most→Lib.atoiAll l=.ok (m:Int)→False):numOf l most=none:=by
 cases hn:numOf l most with
 |none=>rfl
 |some m=>
  obtain ⟨h1,h2⟩:=numOf_some hn;exact (h m h1 h2 (by rw [h1];exact atoi_dec m (by rw [←h1];omega))).elim
def NumTold (o:Option Nat) (n:Int) (ok:Bool):Prop:=(∃m:Nat,o=some m∧n=m∧ok=true)∨(o=none∧ok=false)
def NumPost (s:ByteArray) (most:Nat) (w:World) (e:Ending) (w':World):Prop:=
 ∃(n:Int) (ok:Bool),e=.returned (.tuple #[.int .i64 n,.bool ok])∧Hid (NumTold (numOf (bl s) most) n ok)∧Below w.heap.size w w'
theorem sumNumber_any (s:ByteArray) (most:Nat) (hm:most≤18) (w:World) (hs:s.size≤281474976710656) (ha:AtoiEnv w) (ht:PowTab w):
  Calls Tryz.prog 114 #[.string s,.int .i64 most] w (NumPost s most w):=by
 go_enter Tryz.func114,Tryz.ntmps114;go_wp2_with fail;refine (atoi_any s w hs ha).mono ?_;rintro e w1 (⟨v,rfl,HV,hb⟩|⟨v,te,a,rfl,HV,hb⟩)
 ·have hT1:=ht.ext hb;have hv1:v≤9223372036854775807:=(Lib.atoiAll_bounds HV.out).2;clear ha ht;by_cases hl:s.size≤most
  ·by_cases hv:0≤v
   ·obtain ⟨n,rfl⟩:∃n:Nat,v=n:=⟨v.toNat,by omega⟩;go_wp2_with fail;refine (itoa_any n (by omega) w1 hT1).mono ?_;rintro e w2 ⟨t,rfl,HT,_,hb2⟩;have hbb:=hb.trans (hb2.mono hb.size);clear hb hb2 hT1;by_cases hts:t=s
    ·have q:(t.toList==s.toList)=true:=str_same s t hts;go_wp2_with fail;go_ret2;refine ⟨_,_,rfl,?_,hbb⟩;have:bl s=Lib.decDigits n:=by rw [←hts];exact HT.out
     exact .inl ⟨n,by rw [this];exact numOf_dec n most (by rw [←this,bl_length];exact hl),rfl,rfl⟩
    ·have q:(t.toList==s.toList)=false:=str_other s t hts;go_wp2_with fail;go_ret2;refine ⟨_,_,rfl,.inr ⟨num_no hm fun m h1 h2 h3=>hts ?_,rfl⟩,hbb⟩;have h4:=HV.out;rw [h3] at h4;have h5:(m:Int)=n:=by injection h4
     have h6:m=n:=by omega
     rw [h6] at h1;exact bl_inj (by rw [HT.out,h1])
   ·have H:Hid (numOf (bl s) most=none):=num_no hm fun m h1 h2 h3=>by
     have h4:=HV.out;rw [h3] at h4;have h5:(m:Int)=v:=by injection h4
     omega
    go_wp2_with fail;go_ret2;exact ⟨_,_,rfl,.inr ⟨H.out,rfl⟩,hb⟩
  ·have H:Hid (numOf (bl s) most=none):=num_no hm fun m h1 h2 h3=>by rw [bl_length] at h2;omega
   go_wp2_with fail;go_ret2;exact ⟨_,_,rfl,.inr ⟨H.out,rfl⟩,hb⟩
 ·have H:Hid (numOf (bl s) most=none):=num_no hm fun m h1 h2 h3=>HV.out _ h3
  go_wp2_with fail;go_ret2;exact ⟨_,_,rfl,.inr ⟨H.out,rfl⟩,hb⟩
theorem len_s (t:ByteArray) (h:t.size≤21):((⟨#[115]⟩:ByteArray)++t).size≤22:=by
 have:(bl ((⟨#[115]⟩:ByteArray)++t)).length=1+(bl t).length:=by rw [bl_append,List.length_append];rfl
 rw [bl_length,bl_length] at this;omega
theorem sumText_ok (n:Nat) (hn:n<1000000007) (w:World) (ht:PowTab w):
  Calls Tryz.prog 82 #[.int .i64 n] w fun e w'=>∃t:ByteArray,e=.returned (.string t)∧Hid (bl t=115::Lib.decDigits n)∧t.size≤22∧Below w.heap.size w w':=by
 have ra:rightB n=true:=(rightB_iff _).2 ⟨by omega,by omega⟩;go_enter Tryz.func82,Tryz.ntmps82;go_wp2_with fail;refine (right_any _ _).mono ?_;rintro e w1 ⟨rfl,rfl⟩;rw [ra];go_wp2_with fail;refine (itoa_any n (by omega) _ ht).mono ?_;rintro e w1 ⟨t,rfl,HT,hs,hb⟩;go_wp2_with fail;go_ret;exact ⟨_,rfl,by show bl (_++_)=_;rw [bl_append,HT.out];rfl,len_s t hs,hb⟩
def readS (l:List UInt8):Option Nat:=if l.head? =some 115 then (numOf l.tail 10).bind fun n=>if n<1000000007 then some n else none else none
def ReadPost (s:ByteArray) (v0:Value) (w:World) (e:Ending) (w':World):Prop:=
 (∃n:Nat,e=.returned (.tuple #[.int .i64 n,.nilIface])∧Hid (readS (bl s)=some n)∧n<1000000007∧Below w.heap.size w w')∨
 (e=.returned (.tuple #[.int .i64 0,v0])∧Hid (readS (bl s)=none)∧Below w.heap.size w w')
theorem sum_front (b:UInt8) (l:List UInt8):sumL (b::l)=(sumL l+powM l.length*(b.toNat+1))%sM:=by
 have h:sumL ([b]++l)=joinN (sumL [b]) (sumL l) l.length:=sumL_append [b] l;have h1:sumL [b]=b.toNat+1:=by
  show (0*263+b.toNat+1)%sM=_;have:=b.toNat_lt;rw [Nat.mod_eq_of_lt (by show _<1000000007;omega)];omega
 rw [List.singleton_append] at h;rw [h,joinN,h1,Nat.mul_comm,Nat.add_comm]
theorem pow_next (n:Nat):powM (n+1)=powM n*263%sM:=by
 unfold powM;rw [Nat.pow_succ,Nat.mul_mod,Nat.mod_mul_mod];simp [Nat.mul_mod]
theorem sum_front_at (s:ByteArray) (k:Nat) (h:k<s.size):sumL ((bl s).drop k)=(sumL ((bl s).drop (k+1))+powM (s.size- (k+1))*(s[k].toNat+1))%sM:=by
 rw [drop_cons s k h,sum_front,List.length_drop,bl_length]
theorem mul_byte (p b:Nat) (hp:p<1000000007) (hb:b<256):0≤(p:Int)*((b:Int)+1)∧(p:Int)*((b:Int)+1)<300000000000:=by
 have h:p*(b+1)≤1000000007*256:=Nat.mul_le_mul (by omega) (by omega);have e:(p:Int)*((b:Int)+1)=((p*(b+1):Nat):Int):=by rw [Int.natCast_mul,Int.natCast_add];rfl
 rw [e];omega
theorem refSumOf_any (s:ByteArray) (w:World) (hs:s.size≤9223372036854775807):
  Calls Tryz.prog 12 #[.string s] w fun e w'=>e=.returned (.int .i64 (sumL (bl s):Nat))∧w=w':=by
 go_enter Tryz.func12,Tryz.ntmps12
 go_wp2
 go_loop [3,4,5] (fun nv pv iv=>∃k m p:Nat,k≤s.size∧m<1000000007∧p<1000000007∧iv=.int .i64 ((k:Int)-1)∧nv=.int .i64 m∧pv=.int .i64 p∧Hid (m=sumL ((bl s).drop k)∧p=powM (s.size-k))) (fun _ _ iv=>(intOf iv+1).toNat)
 case atStart=>exact ⟨s.size,0,1,Nat.le_refl _,by decide,by decide,rfl,rfl,rfl,by rw [drop_nil s s.size (Nat.le_refl _)];rfl,by rw [Nat.sub_self];rfl⟩
 case round=>
  obtain ⟨k,m,p,hk,hm,hp,rfl,rfl,rfl,H⟩:=hrel;by_cases h0:0<k
  ·obtain ⟨j,rfl⟩:∃j,k=j+1:=⟨k-1,by omega⟩;have hj:j<s.size:=by omega
   have HS:Hid ((m+p*(s[j].toNat+1))%sM=sumL ((bl s).drop j)∧p*263%sM=powM (s.size-j)):=by
    refine ⟨?_,?_⟩
    ·rw [H.out.1,H.out.2];exact (sum_front_at s j hj).symm
    ·rw [H.out.2,show s.size-j=s.size- (j+1)+1 by omega,pow_next]
   have hb:=mul_byte p s[j].toNat hp s[j].toNat_lt;have e1:((m:Int)+(p:Int)*((s[j].toNat:Int)+1))%1000000007=(((m+p*(s[j].toNat+1))%sM:Nat):Int):=by
    show _=(((m+p*(s[j].toNat+1))%1000000007:Nat):Int);rw [Int.natCast_emod,Int.natCast_add,Int.natCast_mul,Int.natCast_add];rfl
   have l1:=Nat.mod_lt (m+p*(s[j].toNat+1)) (show sM>0 by decide);have ix:∀W:World,(Instr.index 9 (.string s) (.int .i64 (((j+1:Nat):Int)-1))).run Tryz.prog W=.ok (.int .u8 s[j].toNat) W:=index_nat s _ j hj (by omega);generalize (m+p*(s[j].toNat+1))%sM=r at*;clear H
   go_wp2
   have b8:=s[j].toNat_lt;have g1:wrap64 (s[j].toNat:Int)=(s[j].toNat:Int):=IntWalk.wrap64_in _ (by omega);have g2:wrap64 ((s[j].toNat:Int)+1)=(s[j].toNat:Int)+1:=IntWalk.wrap64_in _ (by omega);generalize hz:(p:Int)*((s[j].toNat:Int)+1)=z at*;have g3:wrap64 z=z:=IntWalk.wrap64_in _ (by omega);have g4:wrap64 ((m:Int)+z)=(m:Int)+z:=IntWalk.wrap64_in _ (by omega);have g5:((m:Int)+z).tmod 1000000007=(r:Int):=by rw [Int.tmod_eq_emod_of_nonneg (by omega)];exact e1
   rw [g1,g2,hz,g3,g4,g5];refine ⟨⟨j,r,p*263%1000000007,by omega,l1,by omega,rfl,rfl,by go_num,HS⟩,?_⟩;simp [intOf]
  ·have hk0:k=0:=by omega
   subst hk0;have E:=Lib.hid H.out.1;clear H
   go_wp2
   go_ret;rw [E.out];exact ⟨rfl,rfl⟩
theorem refText_ok (n:Nat) (hn:n<1000000007) (w:World):
  Calls Tryz.prog 11 #[.int .i64 n] w fun e w'=>∃t:ByteArray,e=.returned (.string t)∧Hid (bl t=115::Lib.decDigits n)∧Below w.heap.size w w':=by
 have ra:rightB n=true:=(rightB_iff _).2 ⟨by omega,by omega⟩;go_enter Tryz.func11,Tryz.ntmps11;go_wp2_with fail;refine (isSum_any _ _).mono ?_;rintro e w1 ⟨rfl,rfl⟩;rw [ra];go_wp2_with fail;refine (decimal_any n (by omega) _).mono ?_;rintro e w1 ⟨t,rfl,HT,hs,hb⟩;go_wp2_with fail;go_ret;exact ⟨_,rfl,by show bl (_++_)=_;rw [bl_append,HT.out];rfl,hb⟩
theorem cut_yes (l:List UInt8) (h:l.head? =some 115):Lib.hasPrefix l [115]=true∧Lib.trimPrefix l [115]=l.tail:=by
 cases l with
 |nil=>cases h
 |cons c r=>
  simp only [List.head?_cons,Option.some.injEq] at h;subst h;constructor
  ·simp [Lib.hasPrefix]
  ·simp [Lib.trimPrefix,Lib.hasPrefix]
theorem cut_no (l:List UInt8) (h:¬l.head? =some 115):Lib.hasPrefix l [115]=false:=by
 cases l with
 |nil=>rfl
 |cons c r=>
  simp only [List.head?_cons,Option.some.injEq] at h;show ((115:UInt8)==c&&List.isPrefixOf [] r)=false;rw [show ((115:UInt8)==c)=false from beq_eq_false_iff_ne.2 fun e=>h e.symm];rfl
theorem cut_any (s:ByteArray) (w:World):Calls Tryz.prog 110 #[.string s,.string ⟨#[115]⟩] w fun e w'=>
  (∃d:ByteArray,e=.returned (.tuple #[.string d,.bool (Lib.hasPrefix (bl s) [115])])∧Hid (bl d=Lib.trimPrefix (bl s) [115])∧d.size≤s.size)∧w'=w:=by
 refine (Tryz.strings_CutPrefix s ⟨#[115]⟩ w).mono ?_;rintro e w' ⟨rfl,rfl⟩;refine ⟨⟨_,rfl,rfl,?_⟩,rfl⟩;show (Lib.trimPrefix s.data.toList [115]).toArray.size≤_;rw [List.size_toArray];have:(bl s).length=s.size:=bl_length s;by_cases h:(bl s).head? =some 115
 ·rw [show s.data.toList=bl s from rfl,(cut_yes _ h).2,List.length_tail];omega
 ·have h2:=cut_no _ h;rw [show s.data.toList=bl s from rfl];simp [Lib.trimPrefix,h2,this]
theorem sumRead_any (s:ByteArray) (v0:Value) (w:World) (hs:s.size≤281474976710656) (ha:AtoiEnv w) (ht:PowTab w) (hv:w.cell? ⟨2,0,none⟩=some v0):
  Calls Tryz.prog 83 #[.string s] w (ReadPost s v0 w):=by
 go_enter Tryz.func83,Tryz.ntmps83;go_wp2_with fail;refine (cut_any s w).mono ?_;rintro e w1 ⟨⟨d,rfl,HD,hd⟩,rfl⟩;have hg:2<w1.heap.size:=Lib.lt_of_cell hv;by_cases hp:(bl s).head? =some 115
 ·have hpp:=cut_yes _ hp;have HT:Hid (bl d=(bl s).tail):=by show _=_;rw [HD.out,hpp.2]
  rw [hpp.1];clear HD hpp;go_wp2_with fail;refine (sumNumber_any d 10 (by decide) w1 (by omega) ha ht).mono ?_;rintro e w2 ⟨n,ok,rfl,HN,hb⟩;have hv2:=(hb.cell (show (⟨2,0,none⟩:Addr).block<w1.heap.size from hg)).trans hv;clear hv ha ht;rcases HN.out with ⟨m,hm,rfl,rfl⟩|⟨hn,rfl⟩
  ·by_cases hr:m<1000000007
   ·have ra:rightB m=true:=(rightB_iff _).2 ⟨by omega,by omega⟩;have HR:Hid (readS (bl s)=some m):=by show _=_;unfold readS;rw [if_pos hp,←HT.out,hm];show (if _ then _ else _)=_;rw [if_pos hr]
    clear HN hm;go_wp2_with fail;refine (right_any _ _).mono ?_;rintro e w1 ⟨rfl,rfl⟩;rw [ra];clear ra;go_wp2_with fail;go_ret2;exact .inl ⟨m,rfl,HR,hr,hb⟩
   ·have ra:rightB m=false:=by cases h:rightB m with
     |false=>rfl
     |true=>exact absurd ((rightB_iff _).1 h).2 (by omega)
    have HR:Hid (readS (bl s)=none):=by show _=_;unfold readS;rw [if_pos hp,←HT.out,hm];show (if _ then _ else _)=_;rw [if_neg hr]
    clear HN hm;go_wp2_with fail;refine (right_any _ _).mono ?_;rintro e w1 ⟨rfl,rfl⟩;rw [ra];clear ra;go_wp2_with fail;go_quiet (fail);go_wp2_with fail;go_ret2;exact .inr ⟨rfl,HR,hb.trans ((below_drewN _ _ _).mono hb.size)⟩
  ·have HR:Hid (readS (bl s)=none):=by show _=_;unfold readS;rw [if_pos hp,←HT.out,hn];rfl
   clear HN hn;go_wp2_with fail;go_quiet (fail);go_wp2_with fail;go_ret2;exact .inr ⟨rfl,HR,hb.trans ((below_drewN _ _ _).mono hb.size)⟩
 ·have HR:Hid (readS (bl s)=none):=by show _=_;unfold readS;rw [if_neg hp]
  rw [cut_no _ hp];go_wp2_with fail;refine (sumNumber_any d 10 (by decide) w1 (by omega) ha ht).mono ?_;rintro e w2 ⟨n,ok,rfl,HN,hb⟩;have hv2:=(hb.cell (show (⟨2,0,none⟩:Addr).block<w1.heap.size from hg)).trans hv;clear hv ha ht HN;go_wp2_with fail;go_quiet (fail);go_wp2_with fail;go_ret2;exact .inr ⟨rfl,HR,hb.trans ((below_drewN _ _ _).mono hb.size)⟩
end Go.Proofs.YtaabgmbjmfjdjaaGreatDoor
