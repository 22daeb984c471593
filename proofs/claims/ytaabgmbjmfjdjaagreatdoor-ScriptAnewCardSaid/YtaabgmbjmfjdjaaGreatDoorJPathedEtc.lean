import Derived.Test.YtaabgmbjmfjdjaaGreatDoorJPlainly
import Derived.Test.YtaabgmbjmfjdjaaGreatDoorJShelf
import Derived.Test.YtaabgmbjmfjdjaaGreatDoorJErrors
import Derived.Test.YtaabgmbjmfjdjaaGreatDoorJRowedEtc
import Derived.Shelf.Strings.SlTrimAscii
import Derived.IntWalk
namespace Go.Proofs.YtaabgmbjmfjdjaaGreatDoor
open Go Go.RowKit
set_option maxHeartbeats 2000000
set_option maxRecDepth 100000
theorem toList_bl (s:ByteArray):s.toList=bl s:=Lib.toList_data s
theorem partB_eq {s:ByteArray} (h1:¬s.toList=[]) (h2:s.size≤12) (h3:¬s.toList=[46]) (h4:¬s.toList=[46,46]):partB (bl s)=(bl s).all okB:=by
 rw [toList_bl] at h1 h3 h4;unfold partB;have e:decide ((bl s).length≤12)=true:=by rw [bl_length];exact decide_eq_true h2
 rw [e,beq_eq_false_iff_ne.2 h1,beq_eq_false_iff_ne.2 h3,beq_eq_false_iff_ne.2 h4];rfl
theorem part_trim (s:ByteArray):(Lib.trimS s.data.toList lets).isEmpty=(bl s).all okB:=by
 cases h:(bl s).all okB with
 |true=>rw [show Lib.trimS s.data.toList lets=[] from (trimS_nil _).2 h];rfl
 |false=>
  cases h2:Lib.trimS s.data.toList lets with
  |nil=>rw [show (bl s).all okB=true from (trimS_nil _).1 h2] at h;cases h
  |cons _ _=>rfl
theorem part_any (s:ByteArray) (w:World) (hs:s.size≤281474976710656):
  Calls Tryz.prog 113 #[.string s] w fun e w'=>e=.returned (.bool (partB (bl s)))∧Below w.heap.size w w':=by
 go_enter Tryz.func113,Tryz.ntmps113;go_wp2_with fail
 all_goals try (go_ret;refine ⟨?_,Below.refl _ _⟩)
 all_goals try (rename_i h;rw [toList_bl] at h;rw [h];rfl)
 ·have h1:¬s.toList=[]:=by assumption
  have h2:(s.size:Int)≤12:=by assumption
  have h3:¬s.toList=[46]:=by assumption
  have h4:¬s.toList=[46,46]:=by assumption
  have HP:=Lib.hid (partB_eq h1 (by omega) h3 h4);clear h1 h2 h3 h4;refine (Any.strings_Trim_laid Tryz.lays160 (by kernel_rfl) s _ w (by omega) (by decide) (ascii_of_all (by decide))).mono ?_;rintro e w1 ⟨rfl,hb⟩;have HT:=Lib.hid (part_trim s);go_wp2_with fail;go_ret;refine ⟨?_,hb⟩;have g1:s.toList.isEmpty=false:=by cases h:s.toList with
   |nil=>exact absurd h (by assumption)
   |cons _ _=>rfl
  have g3:(s.toList== [46])=false:=beq_eq_false_iff_ne.2 (by assumption);have g4:(s.toList== [46,46])=false:=beq_eq_false_iff_ne.2 (by assumption);have HT2:=HT.out;rw [HP.out,←HT2];show Ending.returned (Value.bool (!s.toList.isEmpty&& !s.toList== [46]&& !s.toList== [46,46]&&_))=_;rw [g1,g3,g4];rfl
 ·rename_i h;have e:decide ((bl s).length≤12)=false:=by rw [bl_length];exact decide_eq_false (by omega)
  unfold partB;rw [e];simp
theorem notPart_any (s:ByteArray) (w:World) (hs:s.size≤281474976710656):
  Calls Tryz.prog 217 #[.string s] w fun e w'=>e=.returned (.bool (!partB (bl s)))∧Below w.heap.size w w':=by
 go_enter Tryz.func217,Tryz.ntmps217;go_wp2_with fail;refine (part_any s w hs).mono ?_;rintro e w1 ⟨rfl,hb⟩;go_wp2_with fail;go_ret;exact ⟨rfl,hb⟩
def StrsAt (w:World) (b:Nat) (zs:List ByteArray):Prop:=b<w.heap.size∧∀j,(h:j<zs.length)→w.cell? ⟨b,j,none⟩=some (.string zs[j])
theorem StrsAt.ext {w w':World} {b:Nat} {zs:List ByteArray} (h:StrsAt w b zs) (hb:Below w.heap.size w w'):StrsAt w' b zs:=
 ⟨Nat.lt_of_lt_of_le h.1 hb.size,fun j hj=>(hb.cell (p:=⟨b,j,none⟩) h.1).trans (h.2 j hj)⟩
def IxPost (zs:List ByteArray) (w:World) (e:Ending) (w':World):Prop:=
 ((∃k:Nat,e=.returned (.int .i64 k)∧Hid (zs.all (fun z=>partB (bl z))=false))∨(e=.returned (.int .i64 (-1))∧Hid (zs.all (fun z=>partB (bl z))=true)))∧Below w.heap.size w w'
theorem indexFunc_any (b n c:Nat) (zs:List ByteArray) (w:World) (hn:n=zs.length) (hz:zs.length≤281474976710656) (hs:∀z∈zs,z.size≤281474976710656) (hc:StrsAt w b zs):
  Calls Tryz.prog 239 #[.slice (some ⟨b,0,none⟩) n c,.func (.func 217) #[] #[]] w (IxPost zs w):=by
 subst hn;have HC:=Lib.hid hc;have HS:=Lib.hid hs;clear hc hs;go_enter Tryz.func239,Tryz.ntmps239;go_wp2_with fail;go_loopw [5,8] (fun _ i w1=>∃k:Nat,k≤zs.length∧i=.int .i64 k∧Hid (∀j,(h:j<zs.length)→j<k→partB (bl zs[j])=true)∧Below w.heap.size w w1) (fun _ i _=>zs.length- (intOf i).toNat)
 case atStart=>exact ⟨0,Nat.zero_le _,rfl,fun j _ h=>absurd h (Nat.not_lt_zero _),Below.refl _ _⟩
 case round=>
  obtain ⟨k,hk,rfl,HA,hb⟩:=hrel;by_cases hlt:k<zs.length
  ·have cl:=(HC.out.ext hb).2 k hlt;have sz:=HS.out zs[k] (List.getElem_mem hlt);have HY:=Lib.hid (show zs[k]=zs[k] from rfl);generalize hy:zs[k]=y at cl sz;have HZ:=Lib.hid hy;clear hy;go_wp2_with fail;refine (notPart_any y _ sz).mono ?_;rintro e w2 ⟨rfl,hb2⟩
   cases hp:partB (bl y) with
   |true=>
    have H2:Hid (∀j,(h:j<zs.length)→j<k+1→partB (bl zs[j])=true):=fun j h hj=>by
     by_cases e:j=k
     ·subst e;rw [HZ.out];exact hp
     ·exact HA.out j h (by omega)
    clear HA hp HY HZ;go_wp2_with fail;go_roundw
    case rel=>exact ⟨k+1,by omega,by go_num,H2,hb.trans (hb2.mono hb.size)⟩
    case measure=>simp [intOf];omega
   |false=>
    have HF:Hid (zs.all (fun z=>partB (bl z))=false):=by
     refine List.all_eq_false.2 ⟨zs[k],List.getElem_mem hlt,?_⟩;rw [HZ.out,hp];decide
    clear HA hp HY HZ;go_wp2_with fail;go_ret;exact ⟨.inl ⟨k,rfl,HF⟩,hb.trans (hb2.mono hb.size)⟩
  ·have HT:Hid (zs.all (fun z=>partB (bl z))=true):=by
    refine List.all_eq_true.2 fun x hx=>?_
    obtain ⟨j,hj,rfl⟩:=List.getElem_of_mem hx;exact HA.out j hj (by omega)
   have hkk:k=zs.length:=by omega
   subst hkk;clear HA;go_wp2_with fail;go_ret;exact ⟨.inr ⟨rfl,HT⟩,hb⟩
theorem containsFunc_any (b n c:Nat) (zs:List ByteArray) (w:World) (hn:n=zs.length) (hz:zs.length≤281474976710656) (hs:∀z∈zs,z.size≤281474976710656) (hc:StrsAt w b zs):
  Calls Tryz.prog 216 #[.slice (some ⟨b,0,none⟩) n c,.func (.func 217) #[] #[]] w fun e w'=>e=.returned (.bool (!zs.all (fun z=>partB (bl z))))∧Below w.heap.size w w':=by
 have C:=Lib.hid (indexFunc_any b n c zs w hn hz hs hc);clear hc hs hz;have HN:=Lib.hid hn;clear hn;go_enter Tryz.func216,Tryz.ntmps216;go_wp2_with fail;refine C.out.mono ?_;clear C;intro e w1 h;unfold IxPost at h;obtain ⟨⟨k,rfl,H⟩|⟨rfl,H⟩,hb⟩:=h
 ·go_wp2_with fail;go_ret;exact ⟨by rw [H.out];rfl,hb⟩
 ·go_wp2_with fail;go_ret;exact ⟨by rw [H.out];rfl,hb⟩
def errV (E:Nat→Addr):Nat→Value
 |0=>.nilIface
 |k+1=>sentV E k
structure PEnv (E:Nat→Addr) (w:World):Prop where
 name:w.cell? ⟨4,0,none⟩=some (sentV E 4)
 full:w.cell? ⟨7,0,none⟩=some (sentV E 7)
 max:∃m,w.cell? ⟨14,0,none⟩=some (.int .i64 m)
theorem PEnv.ext {E:Nat→Addr} {w w':World} (h:PEnv E w) (hb:Below w.heap.size w w'):PEnv E w':=by
 obtain ⟨h1,h2,m,h3⟩:=h;exact ⟨by rw [hb.cell (p:=⟨4,0,none⟩) (lt_of_cell h1)];exact h1,by rw [hb.cell (p:=⟨7,0,none⟩) (lt_of_cell h2)];exact h2,
  m,by rw [hb.cell (p:=⟨14,0,none⟩) (lt_of_cell h3)];exact h3⟩
theorem split_size (s:ByteArray) (c:UInt8):∀z∈Lib.splitB ⟨#[c]⟩ 0 (Lib.countB s ⟨#[c]⟩) s,z.size≤s.size:=by
 intro z hz;have h:bl z∈cutL c (bl s):=by rw [←splitB_cut];exact List.mem_map.2 ⟨z,hz,rfl⟩
 have:=cutL_size c (bl s) _ h;rwa [bl_length,bl_length] at this
theorem split_any (s:ByteArray) (c:UInt8) (w:World) (hs:s.size≤1000000000) (hm:∃m,w.cell? ⟨14,0,none⟩=some (.int .i64 m)):
  Calls Tryz.prog 22 #[.string s,.string ⟨#[c]⟩] w fun e w'=>
   (∃(zs:List ByteArray) (n:Nat),e=.returned (.slice (some ⟨w.heap.size,0,none⟩) n n)∧Hid (zs.map bl=cutL c (bl s))∧n=zs.length∧n≤s.size+1∧Hid (∀z∈zs,z.size≤s.size)∧Hid (StrsAt w' w.heap.size zs))∧Below w.heap.size w w':=by
 obtain ⟨m,hm⟩:=hm;refine (Tryz.strings_Split s ⟨#[c]⟩ m w (by omega) hm (Nat.le_refl 1)).mono ?_;rintro e w' ⟨rfl,rfl⟩;have hl:=Lib.splitB_all ⟨#[c]⟩ (Nat.le_refl 1) 0 _ s rfl;have hc:Lib.countB s ⟨#[c]⟩≤s.size:=Lib.countB_le ⟨#[c]⟩ (Nat.le_refl 1) _ s (Nat.le_refl _);refine ⟨⟨Lib.splitB ⟨#[c]⟩ 0 (Lib.countB s ⟨#[c]⟩) s,_,rfl,splitB_cut s c,hl.symm,by omega,split_size s c,?_,?_⟩,?_⟩
 ·simp
 ·intro j hj;rw [World.cell?_alloc_at _ _ _ _ rfl];simp [hj]
 ·exact (Below.refl _ w).alloc (Nat.le_refl _) _
def PartsPost (E:Nat→Addr) (s:ByteArray) (w:World) (e:Ending) (w':World):Prop:=
 ((∃(zs:List ByteArray) (b n:Nat),e=.returned (.tuple #[.slice (some ⟨b,0,none⟩) n n,.nilIface])∧Hid (zs.map bl=cutL 47 (bl s))∧n=zs.length∧n≤6∧Hid (∀z∈zs,z.size≤s.size)∧Hid (StrsAt w' b zs)∧Hid (partsE (bl s)=0))∨
  (∃k,e=.returned (.tuple #[.slice none 0 0,sentV E k])∧Hid (partsE (bl s)=k+1)))∧Below w.heap.size w w'
theorem pathParts_any {E:Nat→Addr} (s:ByteArray) (w:World) (hs:s.size≤1000000) (hE:PEnv E w):Calls Tryz.prog 183 #[.string s] w (PartsPost E s w):=by
 have C:=Lib.hid (split_any s 47 w (by omega) hE.max);have HE:=Lib.hid hE;clear hE;go_enter Tryz.func183,Tryz.ntmps183;go_wp2_with fail;refine C.out.mono ?_;rintro e w1 ⟨⟨zs,n,rfl,HZ,hn,hl,HS,HA⟩,hb⟩;clear C;have C:=Lib.hid (containsFunc_any w.heap.size n n zs w1 hn (by omega) (fun z hz=>by have:=HS.out z hz;omega) HA.out);have HN:=Lib.hid hn;have e1:=HE.out.ext hb;clear hn;go_wp2_with fail;refine C.out.mono ?_;rintro e w2 ⟨rfl,hb2⟩;clear C;have hbb:=hb.trans (hb2.mono hb.size);have HA2:=Lib.hid (HA.out.ext hb2);have e2:=HE.out.ext hbb;have HP:Hid (zs.all (fun z=>partB (bl z))=(cutL 47 (bl s)).all partB):=by
  show _=_;rw [←HZ.out,List.all_map];rfl
 have HL:Hid (n=(cutL 47 (bl s)).length):=by show _=_;rw [←HZ.out,List.length_map,HN.out]
 have c1:=e2.name;have c2:=e2.full
 cases hp:zs.all (fun z=>partB (bl z)) with
 |false=>
  have HR:Hid (partsE (bl s)=4+1):=by
   have h:=HP.out;rw [hp] at h;show _=_;unfold partsE;rw [←h];rfl
  clear HP hp e1 e2;go_wp2_with fail;go_quiet (fail);go_wp2_with fail;go_ret2;exact ⟨.inr ⟨4,rfl,HR⟩,hbb.trans ((below_drewN _ _ _).mono hbb.size)⟩
 |true=>
  have h:=HP.out;rw [hp] at h;by_cases h6:n≤6
  ·have HR:Hid (partsE (bl s)=0):=by
    show _=_;unfold partsE;rw [←h,←HL.out,if_pos rfl,if_neg (by omega)]
   clear HP hp e1 e2 h;go_wp2_with fail;go_ret2;exact ⟨.inl ⟨zs,w.heap.size,n,rfl,HZ,HN.out,h6,HS,HA2,HR⟩,hbb⟩
  ·have HR:Hid (partsE (bl s)=7+1):=by
    show _=_;unfold partsE;rw [←h,←HL.out,if_pos rfl,if_pos (by omega)]
   clear HP hp e1 e2 h;go_wp2_with fail;go_quiet (fail);go_wp2_with fail;go_ret2;exact ⟨.inr ⟨7,rfl,HR⟩,hbb.trans ((below_drewN _ _ _).mono hbb.size)⟩
theorem pathCheck_any {E:Nat→Addr} (s:ByteArray) (w:World) (hs:s.size≤1000000) (hE:PEnv E w):
  Calls Tryz.prog 142 #[.string s] w fun e w'=>e=.returned (errV E (partsE (bl s)))∧Below w.heap.size w w':=by
 have C:=Lib.hid (pathParts_any s w hs hE);clear hE;go_enter Tryz.func142,Tryz.ntmps142;go_wp2_with fail;refine C.out.mono ?_;clear C;intro e w1 h;unfold PartsPost at h;obtain ⟨⟨zs,b,n,rfl,_,_,_,_,_,HR⟩|⟨k,rfl,HR⟩,hb⟩:=h
 ·go_wp2_with fail;go_ret;exact ⟨by rw [HR.out];rfl,hb⟩
 ·go_wp2_with fail;go_ret;exact ⟨by rw [HR.out];rfl,hb⟩
theorem blExtract (s:ByteArray) (i j:Nat):bl (s.extract i j)=((bl s).drop i).take (j-i):=by
 show (s.extract i j).data.toList=_;rw [ByteArray.data_extract,Array.toList_extract,List.extract_eq_take_drop];rfl
theorem cur_next (s:ByteArray) (a k:Nat) (ha:a≤k) (h:k<s.size):bl (s.extract a (k+1))=bl (s.extract a k)++[s[k]]:=by
 rw [blExtract,blExtract,show k+1-a=(k-a)+1 by omega,List.take_add_one];congr 1;rw [List.getElem?_drop,show a+(k-a)=k by omega,List.getElem?_eq_getElem (by rw [bl_length];exact h)];rfl
theorem Tryz.infoStr:(Tryz.prog.info? 9).map (fun i=>(i.zero,i.size,i.bytes))=some (some (.string ⟨#[]⟩),1,16):=by kernel_rfl
def CutPost (s:ByteArray) (c:UInt8) (w:World) (e:Ending) (w':World):Prop:=
 ∃(v:Value) (zs:List ByteArray),e=.returned v∧Hid (Row encStr 1 w' v zs)∧Hid (zs.map bl=cutL c (bl s))∧zs.length≤s.size+1∧Below w.heap.size w w'
def CutOwn (s:ByteArray) (c:UInt8) (w:World) (e:Ending) (w':World):Prop:=
 ∃(v:Value) (zs:List ByteArray),e=.returned v∧Hid (w'.ownsRow w.heap.size 9 1 v zs.length (zs.flatMap encStr))∧Hid (zs.map bl=cutL c (bl s))∧zs.length≤s.size+1∧Below w.heap.size w w'
theorem refCut_own (s:ByteArray) (c:UInt8) (w:World) (hs:s.size≤1000000):
  Calls Tryz.prog 7 #[.string s,.int .u8 c.toNat] w (CutOwn s c w):=by
 obtain ⟨i0,hi0,hz0,hz1,hz2⟩:=info_parts Tryz.infoStr;go_enter Tryz.func7,Tryz.ntmps7;go_wp2_with fail;go_loopw [5,6,7] (fun v f i wr=>∃(k a:Nat) (acc:List ByteArray),a≤k∧k≤s.size∧i=.int .i64 k∧f=.int .i64 a∧acc.length≤k∧
   Hid (cutL c (bl s)=acc.map bl++cutGo c (bl (s.extract a k)) ((bl s).drop k))∧Hid (wr.ownsRow w.heap.size 9 1 v acc.length (acc.flatMap encStr))∧Below w.heap.size w wr) (fun _ _ i _=>s.size- (intOf i).toNat)
 case atStart=>exact ⟨0,0,[],Nat.le_refl _,Nat.zero_le _,rfl,rfl,Nat.le_refl _,by show _=_;rw [blExtract];rfl,World.ownsRow_nil _ _ _ _,Below.refl _ _⟩
 case round=>
  obtain ⟨k,a,acc,hak,hk,rfl,rfl,hacc,HC,HO,hb⟩:=hrel;by_cases hlt:k<s.size
  ·have ix:∀W:World,(Instr.index 9 (.string s) (.int .i64 (k:Int))).run Tryz.prog W=.ok (.int .u8 s[k].toNat) W:=index_nat s k k hlt rfl;by_cases hc:s[k]=c
   ·have q:((s[k].toNat:Int)==(c.toNat:Int))=true:=by rw [hc];simp
    have sl:=slice_nat s a k a k hak (by omega) rfl rfl;have HC2:Hid (cutL c (bl s)=(acc++[s.extract a k]).map bl++cutGo c (bl (s.extract (k+1) (k+1))) ((bl s).drop (k+1))):=by
     show _=_;rw [HC.out,drop_cons s k hlt,cutGo,if_pos hc,List.map_append,List.append_assoc];have:bl (s.extract (k+1) (k+1))=[]:=by rw [blExtract];simp
     rw [this];rfl
    clear HC hc;go_wp2_with (at_builtin;refine wpList_append_own _ rfl _ _ 22 rfl w.heap.size 9 i0 (.string ⟨#[]⟩) 1 16 Tryz.underlying22 hi0 hz0 hz1 hz2 rfl (by decide) _ _ _ rfl (HO.out.alloc _) ⟨wr.heap.size,0,none⟩ 1 1 (encStr (s.extract a k)) rfl rfl ?c1 ?c2 ?c3 ?c4 ?c5 ?_)
    case c1=>
     intro j u hj
     match j,hj with
     |0,hj=>simp at hj;subst hj;simp [Addr.add]
    case c2=>intro u hu;simp at hu;subst hu;rfl
    case c3=>rw [maxLen_eq];omega
    case c4=>omega
    case c5=>have:=hb.size;simp;omega
    intro v' w2 hown' hgrow _;have hown2:Hid (w2.ownsRow w.heap.size 9 1 v' (acc++[s.extract a k]).length ((acc++[s.extract a k]).flatMap encStr)):=by
     show World.ownsRow _ _ _ _ _ _ _;simpa using hown'
    have hrow:∀g,u5.ownBlock=some g→w.heap.size≤g:=fun g hg=>(HO.out.lt g hg).1
    have hbb:Below w.heap.size w w2:=(hb.alloc hb.size _).grown hgrow (by have:=hb.size;simp;omega) (fun g hg=>hrow g hg);clear hown' hgrow HO hrow ix q sl hb;go_wp2_with fail;go_roundw
    case rel=>exact ⟨k+1,k+1,acc++[s.extract a k],Nat.le_refl _,by omega,by go_num,by go_num,by simp;omega,HC2,hown2,hbb⟩
    case measure=>simp [intOf];omega
   ·have q:((s[k].toNat:Int)==(c.toNat:Int))=false:=by
     rw [beq_eq_false_iff_ne];intro h;exact hc (UInt8.toNat_inj.1 (by omega))
    have HC2:Hid (cutL c (bl s)=acc.map bl++cutGo c (bl (s.extract a (k+1))) ((bl s).drop (k+1))):=by
     show _=_;rw [HC.out,drop_cons s k hlt,cutGo,if_neg hc,cur_next s a k hak hlt]
    clear HC hc;go_wp2_with fail;go_roundw
    case rel=>exact ⟨k+1,a,acc,by omega,by omega,by go_num,rfl,by omega,HC2,HO,hb⟩
    case measure=>simp [intOf];omega
  ·have hkk:k=s.size:=by omega
   subst hkk;have sl:=slice_from s a a hak rfl;have HC2:Hid ((acc++[s.extract a s.size]).map bl=cutL c (bl s)):=by
    show _=_;rw [HC.out,drop_nil s s.size (Nat.le_refl _),cutGo,List.map_append];rfl
   clear HC;go_wp2_with (at_builtin;refine wpList_append_own _ rfl _ _ 22 rfl w.heap.size 9 i0 (.string ⟨#[]⟩) 1 16 Tryz.underlying22 hi0 hz0 hz1 hz2 rfl (by decide) _ _ _ rfl (HO.out.alloc _) ⟨wr.heap.size,0,none⟩ 1 1 (encStr (s.extract a s.size)) rfl rfl ?c1 ?c2 ?c3 ?c4 ?c5 ?_)
   case c1=>
    intro j u hj
    match j,hj with
    |0,hj=>simp at hj;subst hj;simp [Addr.add]
   case c2=>intro u hu;simp at hu;subst hu;rfl
   case c3=>rw [maxLen_eq];omega
   case c4=>omega
   case c5=>have:=hb.size;simp;omega
   intro v' w2 hown' hgrow _;have hown2:Hid (w2.ownsRow w.heap.size 9 1 v' (acc++[s.extract a s.size]).length ((acc++[s.extract a s.size]).flatMap encStr)):=by
    show World.ownsRow _ _ _ _ _ _ _;simpa using hown'
   have hrow:∀g,u5.ownBlock=some g→w.heap.size≤g:=fun g hg=>(HO.out.lt g hg).1
   have hbb:Below w.heap.size w w2:=(hb.alloc hb.size _).grown hgrow (by have:=hb.size;simp;omega) (fun g hg=>hrow g hg);clear hown' hgrow HO hrow sl hb;go_wp2_with fail;go_ret;exact ⟨v',acc++[s.extract a s.size],rfl,hown2,HC2,by simp;omega,hbb⟩
theorem refCut_any (s:ByteArray) (c:UInt8) (w:World) (hs:s.size≤1000000):
  Calls Tryz.prog 7 #[.string s,.int .u8 c.toNat] w (CutPost s c w):=
 (refCut_own s c w hs).mono fun _ _ ⟨v,zs,h1,h2,h3,h4,h5⟩=>⟨v,zs,h1,Row.of_owns (enc:=encStr) (fun _=>rfl) h2.out,h3,h4,h5⟩
def okN (x:Nat):Prop:=(97≤x∧x≤122)∨(48≤x∧x≤57)∨x=46∨x=95∨x=45
instance (x:Nat):Decidable (okN x):=by unfold okN;infer_instance
theorem blAdd (a b:ByteArray):bl (a++b)=bl a++bl b:=by
 show (a++b).data.toList=a.data.toList++b.data.toList;rw [ByteArray.data_append,Array.toList_append]
def inB (s d:List UInt8):Bool:=decide (partsE s=0)&&(decide (d=[])||(decide (partsE d=0)&&Lib.hasPrefix s (d++[47])))
theorem pathIn_any {E:Nat→Addr} (s d:ByteArray) (w:World) (hs:s.size≤100000) (hd:d.size≤100000) (hE:PEnv E w):
  Calls Tryz.prog 189 #[.string s,.string d] w fun e w'=>e=.returned (.bool (inB (bl s) (bl d)))∧Below w.heap.size w w':=by
 have C:=Lib.hid (pathCheck_any s w (by omega) hE);have HE:=Lib.hid hE;have HH:=Lib.hid (fun w'=>Tryz.strings_HasPrefix s (d++⟨#[47]⟩) w');have HD:Hid (Lib.hasPrefix s.data.toList (d++⟨#[47]⟩).data.toList=Lib.hasPrefix (bl s) (bl d++[47])):=by show Lib.hasPrefix (bl s) (bl (d++⟨#[47]⟩))=_;rw [blAdd];rfl
 clear hE
 cases hc:partsE (bl s) with
 |succ c=>
  have HX:Hid (inB (bl s) (bl d)=false):=by show _=_;unfold inB;rw [hc];rfl
  go_enter Tryz.func189,Tryz.ntmps189;go_wp2_with fail;refine C.out.mono ?_;clear C;rintro e w1 ⟨rfl,hb⟩;rw [hc,show errV E (c+1)=sentV E c from rfl];clear hc;go_wp2_with fail;go_ret;exact ⟨by rw [HX.out];rfl,hb⟩
 |zero=>
  by_cases h:d.toList=[]
  ·have g:d.toList.isEmpty=true:=by rw [h];rfl
   have HX:Hid (inB (bl s) (bl d)=true):=by show _=_;unfold inB;rw [hc,decide_eq_true (show bl d=[] by rw [←toList_bl];exact h)];rfl
   clear h;go_enter Tryz.func189,Tryz.ntmps189;go_wp2_with fail;refine C.out.mono ?_;clear C;rintro e w1 ⟨rfl,hb⟩;rw [hc,show errV E 0=.nilIface from rfl];clear hc;go_wp2_with fail;go_ret;exact ⟨by rw [HX.out];rfl,hb⟩
  ·have g:d.toList.isEmpty=false:=by
    cases h2:d.toList with
    |nil=>exact absurd h2 h
    |cons _ _=>rfl
   have HX:Hid (inB (bl s) (bl d)=(decide (partsE (bl d)=0)&&Lib.hasPrefix (bl s) (bl d++[47]))):=by
    show _=_;unfold inB;rw [hc,decide_eq_false (show ¬bl d=[] by rw [←toList_bl];exact h)];rfl
   clear h;go_enter Tryz.func189,Tryz.ntmps189;go_wp2_with fail;refine C.out.mono ?_;clear C;rintro e w1 ⟨rfl,hb⟩;rw [hc,show errV E 0=.nilIface from rfl];clear hc;have C:=Lib.hid (pathCheck_any d w1 (by omega) (HE.out.ext hb));go_wp2_with fail;refine C.out.mono ?_;clear C;rintro e w2 ⟨rfl,hb2⟩
   cases hc:partsE (bl d) with
   |succ c=>
    rw [show errV E (c+1)=sentV E c from rfl];have HY:Hid (inB (bl s) (bl d)=false):=by show _=_;rw [HX.out,hc];rfl
    clear hc;go_wp2_with fail;go_ret;exact ⟨by rw [HY.out];rfl,hb.trans (hb2.mono hb.size)⟩
   |zero=>
    rw [show errV E 0=.nilIface from rfl];have HY:Hid (inB (bl s) (bl d)=Lib.hasPrefix (bl s) (bl d++[47])):=by show _=_;rw [HX.out,hc];rfl
    clear hc;go_wp2_with fail;refine (HH.out w2).mono ?_;rintro e w3 ⟨rfl,rfl⟩;rw [HD.out];go_wp2_with fail;go_ret;exact ⟨by rw [HY.out];rfl,hb.trans (hb2.mono hb.size)⟩
end Go.Proofs.YtaabgmbjmfjdjaaGreatDoor
