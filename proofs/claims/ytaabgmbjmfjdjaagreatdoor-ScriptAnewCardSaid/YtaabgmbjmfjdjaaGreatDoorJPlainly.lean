import Derived.WalkKit
import Derived.Lib.SplitLaws
import Derived.Lib.CutLaws
import Derived.Lib.SlTrimSet
import Derived.Lib.LastIndexLaws
import Derived.Lib.IndexLaws
import Derived.Lib.ItoaNum
import Derived.Lib.ItoaLen
import Derived.Lib.AppendStr
import Derived.Lib.UnsafeStr
import Derived.Lib.AtoiAllCases
import Derived.Test.YtaabgmbjmfjdjaaGreatDoorProg
import Derived.Lib.Hide
namespace Go.Proofs.YtaabgmbjmfjdjaaGreatDoor
open Go Go.RowKit
set_option maxHeartbeats 400000
def bl (s:ByteArray):List UInt8:=s.data.toList
theorem bl_length (s:ByteArray):(bl s).length=s.size:=by show s.data.toList.length=s.data.size;exact Array.length_toList
theorem drop_cons (s:ByteArray) (k:Nat) (h:k<s.size):(bl s).drop k=s[k]::(bl s).drop (k+1):=by
 have hk:k<(bl s).length:=by rw [bl_length];exact h
 rw [List.drop_eq_getElem_cons hk];rfl
theorem drop_nil (s:ByteArray) (k:Nat) (h:s.size≤k):(bl s).drop k=[]:=by
 apply List.drop_of_length_le;rw [bl_length];exact h
def numGo:List UInt8→Nat→Nat→Nat×Nat
 | [],k,n=>(n,k)
 |c::cs,k,n=>if k<9∧48≤c.toNat∧c.toNat≤57∧(0<k∨c.toNat≠48) then numGo cs (k+1) (10*n+(c.toNat-48)) else (n,k)
def cutGo (c:UInt8):List UInt8→List UInt8→List (List UInt8)
 |cur,[]=>[cur]
 |cur,b::l=>if b=c then cur::cutGo c [] l else cutGo c (cur++[b]) l
def cutL (c:UInt8) (l:List UInt8):List (List UInt8):=cutGo c [] l
theorem cutGo_no (c:UInt8):∀(l cur:List UInt8),c∉l→cutGo c cur l=[cur++l]
 | [],cur,_=>by simp [cutGo]
 |b::l,cur,h=>by
  have hb:b≠c:=fun e=>h (by simp [e])
  rw [cutGo,if_neg hb,cutGo_no c l _ (fun e=>h (List.mem_cons_of_mem _ e))];simp
theorem cutGo_app (c:UInt8) (r:List UInt8):∀(l cur:List UInt8),cutGo c cur (l++c::r)=cutGo c cur l++cutGo c [] r
 | [],cur=>by simp [cutGo]
 |b::l,cur=>by
  rw [List.cons_append,cutGo,cutGo];split
  ·rw [cutGo_app c r l];simp
  ·exact cutGo_app c r l _
theorem cutL_no {c:UInt8} {l:List UInt8} (h:c∉l):cutL c l=[l]:=by rw [cutL,cutGo_no c l [] h];rfl
theorem cutL_app (c:UInt8) (l r:List UInt8):cutL c (l++c::r)=cutL c l++cutL c r:=cutGo_app c r l []
theorem cutGo_ne (c:UInt8):∀(l cur:List UInt8),cutGo c cur l≠[]
 | [],_=>by simp [cutGo]
 |b::l,cur=>by
  rw [cutGo];split
  ·simp
  ·exact cutGo_ne c l _
theorem cutL_ne (c:UInt8) (l:List UInt8):cutL c l≠[]:=cutGo_ne c l []
theorem index_byte_none {c:UInt8}:∀{l:List UInt8},Lib.index l [c]= -1→c∉l
 | [],_=>by simp
 |b::l,h=>by
  rw [Lib.index] at h;split at h
  ·omega
  ·rename_i hp;have hne:b≠c:=fun e=>hp (by simp [List.isPrefixOf,e])
   have hge:=Lib.index_ge l [c];have h2:Lib.index l [c]= -1:=by
    split at h
    ·rename_i h2;exact beq_iff_eq.1 h2
    ·omega
   intro hm;rcases List.mem_cons.1 hm with e|e
   ·exact hne e.symm
   ·exact index_byte_none h2 e
theorem index_byte_hit {c:UInt8}:∀{l:List UInt8} {i:Nat},Lib.index l [c]=i→c∉l.take i∧i<l.length∧l=l.take i++c::l.drop (i+1)
 | [],i,h=>by
  have:Lib.index [] [c]= -1:=by simp [Lib.index]
  omega
 |b::l,i,h=>by
  rw [Lib.index] at h;split at h
  ·rename_i hp;have hbc:c=b:=by simpa [List.isPrefixOf] using hp
   subst hbc;obtain rfl:i=0:=by omega
   simp
  ·rename_i hp;have hne:b≠c:=fun e=>hp (by simp [List.isPrefixOf,e])
   have hge:=Lib.index_ge l [c];split at h
   ·omega
   ·obtain ⟨j,rfl⟩:∃j,i=j+1:=⟨i-1,by rename_i h2;have:Lib.index l [c]≠-1:=fun e=>h2 (beq_iff_eq.2 e);omega⟩;obtain ⟨h1,h2,h3⟩:=index_byte_hit (c:=c) (l:=l) (i:=j) (by omega);refine ⟨?_,?_,?_⟩
    ·rw [List.take_succ_cons];intro hm;rcases List.mem_cons.1 hm with e|e
     ·exact hne e.symm
     ·exact h1 e
    ·simp;omega
    ·conv=>lhs;rw [h3]
     simp
theorem splitK_cut (c:UInt8):∀(k:Nat) (l:List UInt8),Lib.count l [c]=k→Lib.splitK [c] 0 k l=cutL c l
 |0,l,hk=>by
  have:c∉l:=by rw [Lib.count_one] at hk;exact List.count_eq_zero.1 hk
  rw [cutL_no this];rfl
 |k+1,l,hk=>by
  have hge:=Lib.index_ge l [c];by_cases hm:Lib.index l [c]= -1
  ·rw [Lib.count_miss hm] at hk;omega
  ·obtain ⟨i,hi⟩:∃i:Nat,Lib.index l [c]=i:=⟨(Lib.index l [c]).toNat,by omega⟩;obtain ⟨h1,h2,h3⟩:=index_byte_hit hi;have hk2:=Lib.count_hit (by simp) hi;rw [hk] at hk2;simp only [List.length_cons,List.length_nil,Nat.zero_add] at hk2;have ih:=splitK_cut c k (l.drop (i+1)) (by omega);unfold Lib.splitK;rw [if_neg (fun e=>hm (beq_iff_eq.1 e)),hi];show l.take (i+0)::Lib.splitK [c] 0 k (l.drop (i+1))=_;rw [ih,Nat.add_zero]
   conv=>rhs;rw [h3]
   rw [cutL_app,cutL_no h1];rfl
theorem splitB_cut (s:ByteArray) (c:UInt8):(Lib.splitB ⟨#[c]⟩ 0 (Lib.countB s ⟨#[c]⟩) s).map bl=cutL c (bl s):=by
 have h:=Lib.splitB_data ⟨#[c]⟩ 0 (Lib.countB s ⟨#[c]⟩) s;exact h.trans (splitK_cut c _ _ rfl)
theorem cutGo_join (c:UInt8):∀(l cur:List UInt8),[c].intercalate (cutGo c cur l)=cur++l
 | [],cur=>by simp [cutGo,List.intercalate]
 |b::l,cur=>by
  rw [cutGo];split
  ·rename_i h;subst h;have ih:=cutGo_join b l [];have hne:=cutGo_ne b l []
   cases hc:cutGo b [] l with
   |nil=>exact absurd hc hne
   |cons x r=>
    rw [hc] at ih;have:[b].intercalate (cur::x::r)=cur++b::[b].intercalate (x::r):=by
     simp [List.intercalate,List.intersperse]
    rw [this,ih];simp
  ·rw [cutGo_join c l];simp
theorem cutL_join (c:UInt8) (l:List UInt8):[c].intercalate (cutL c l)=l:=by rw [cutL,cutGo_join];rfl
theorem join_cons (c:UInt8) (x y:List UInt8) (r:List (List UInt8)):[c].intercalate (x::y::r)=x++c::[c].intercalate (y::r):=by
 simp [List.intercalate,List.intersperse]
theorem cut_join (c:UInt8):∀(w:List (List UInt8)),w≠[]→(∀x∈w,c∉x)→cutL c ([c].intercalate w)=w
 | [],h,_=>absurd rfl h
 | [x],_,hx=>by
  have:[c].intercalate [x]=x:=by simp [List.intercalate,List.intersperse]
  rw [this,cutL_no (hx x (by simp))]
 |x::y::r,_,hx=>by
  rw [join_cons,cutL_app,cutL_no (hx x (by simp)),cut_join c (y::r) (by simp) (fun z hz=>hx z (List.mem_cons_of_mem _ hz))];rfl
theorem cutGo_size (c:UInt8):∀(l cur:List UInt8),∀x∈cutGo c cur l,x.length≤cur.length+l.length
 | [],cur,x,hx=>by rw [cutGo,List.mem_singleton] at hx;subst hx;simp
 |b::l,cur,x,hx=>by
  rw [cutGo] at hx;split at hx
  ·rcases List.mem_cons.1 hx with e|e
   ·subst e;omega
   ·have:=cutGo_size c l [] x e;simp only [List.length_nil,List.length_cons] at*;omega
  ·have:=cutGo_size c l _ x hx;simp only [List.length_append,List.length_cons,List.length_nil] at*;omega
theorem cutL_size (c:UInt8) (l x:List UInt8) (h:x∈cutL c l):x.length≤l.length:=by have:=cutGo_size c l [] x h;simpa using this
def lets:List UInt8:=[97,98,99,100,101,102,103,104,105,106,107,108,109,110,111,112,113,114,115,116,117,118,119,120,121,122,48,49,50,51,52,53,54,55,56,57,46,95,45]
def okB (c:UInt8):Bool:=lets.contains c
def partB (l:List UInt8):Bool:=(!(l== []))&&decide (l.length≤12)&&(!(l== [46]))&&(!(l== [46,46]))&&l.all okB
theorem dropWhile_nil {p:UInt8→Bool}:∀l:List UInt8,l.dropWhile p=[]↔l.all p=true
 | []=>by simp
 |b::l=>by
  cases h:p b with
  |true=>rw [List.dropWhile_cons_of_pos h,dropWhile_nil l];simp [h]
  |false=>rw [List.dropWhile_cons_of_neg (by simp [h])];simp [h]
theorem trimS_nil (l:List UInt8):Lib.trimS l lets=[]↔l.all okB=true:=by
 have e:Lib.trimRightS l lets=[]↔l.all okB=true:=by
  unfold Lib.trimRightS;rw [List.reverse_eq_nil_iff,dropWhile_nil,List.all_reverse];rfl
 have hs:∀x∈Lib.trimRightS l lets,x∈l:=by
  intro x hx;unfold Lib.trimRightS at hx;rw [List.mem_reverse] at hx;exact List.mem_reverse.1 ((List.dropWhile_suffix _).subset hx)
 unfold Lib.trimS Lib.trimLeftS;rw [dropWhile_nil];constructor
 ·intro h;by_cases h2:Lib.trimRightS l lets=[]
  ·exact e.1 h2
  ·exfalso;unfold Lib.trimRightS at h h2;rw [List.all_reverse] at h;have h3:(l.reverse.dropWhile (lets.contains ·))≠[]:=fun q=>h2 (by rw [q];rfl)
   have h4:=List.head_dropWhile_not (lets.contains ·) h3;have h5:=List.all_eq_true.1 h _ (List.head_mem h3);rw [h4] at h5
   cases h5
 ·intro h;exact List.all_eq_true.2 fun x hx=>List.all_eq_true.1 h x (hs x hx)
def partsE (s:List UInt8):Nat:=if (cutL 47 s).all partB then (if 6<(cutL 47 s).length then 8 else 0) else 5
theorem partsE_le (s:List UInt8):partsE s≤13:=by unfold partsE;split<;>(try split)<;>decide
theorem partsE_ok {s:List UInt8} (h:partsE s=0):(cutL 47 s).all partB=true∧(cutL 47 s).length≤6:=by
 unfold partsE at h;split at h
 ·rename_i h1;split at h
  ·cases h
  ·exact ⟨h1,by omega⟩
 ·cases h
theorem partsE_nil:partsE []=5:=by decide
def sepL:List UInt8:=[58,47,47]
def lkK (s:List UInt8):List UInt8:=(Lib.cut s sepL).1
def lkR (s:List UInt8):List UInt8:=(Lib.cut s sepL).2.1
def lkIs (s:List UInt8):Bool:=(Lib.cut s sepL).2.2
def lkH (s:List UInt8):List UInt8:=(Lib.cut (lkR s) [47]).1
def lkP (s:List UInt8):List UInt8:=(Lib.cut (lkR s) [47]).2.1
def lkAlso (s:List UInt8):Bool:=(Lib.cut (lkR s) [47]).2.2
def kinds:List (List UInt8):=[[104,116,116,112],[102,116,112],[102,105,108,101]]
def lkE (s:List UInt8):Nat:=if (!lkIs s)||(!lkAlso s) then 1 else if !(kinds.contains (lkK s)) then 4 else if !(partB (lkH s)) then 5 else 0
def linkE (s:List UInt8):Nat:=if lkE s=0 then partsE (lkP s) else lkE s
def beginE (s:List UInt8):Nat:=if lkE s=0 then (if Lib.trimSuffix (lkP s) [47]=[] then 0 else partsE (Lib.trimSuffix (lkP s) [47])) else lkE s
theorem lkE_le (s:List UInt8):lkE s≤13:=by unfold lkE;split<;>(try split)<;>(try split)<;>decide
theorem linkE_le (s:List UInt8):linkE s≤13:=by unfold linkE;split;exact partsE_le _;exact lkE_le _
theorem beginE_le (s:List UInt8):beginE s≤13:=by unfold beginE;split;split;decide;exact partsE_le _;exact lkE_le _
def swapX (f t s:List UInt8):List UInt8:=t++s.drop f.length
def swapE (f t s:List UInt8):Nat:=
 if beginE f=0 then if beginE t=0 then if linkE s=0 then if Lib.hasPrefix s f then linkE (swapX f t s) else 6 else linkE s else beginE t else beginE f
def swapT (f t s:List UInt8):List UInt8:=if swapE f t s=0 then swapX f t s else []
theorem hasPrefix_app {s f:List UInt8} (h:Lib.hasPrefix s f=true):s=f++s.drop f.length:=by
 obtain ⟨r,rfl⟩:=List.isPrefixOf_iff_prefix.1 h;simp
theorem hasPrefix_of (f r:List UInt8):Lib.hasPrefix (f++r) f=true:=List.isPrefixOf_iff_prefix.2 ⟨r,rfl⟩
theorem swapE_ok {f t s:List UInt8} (h:swapE f t s=0):beginE f=0∧beginE t=0∧linkE s=0∧Lib.hasPrefix s f=true∧linkE (swapX f t s)=0:=by
 unfold swapE at h;split at h
 ·rename_i h1;split at h
  ·rename_i h2;split at h
   ·rename_i h3;split at h
    ·rename_i h4;exact ⟨h1,h2,h3,h4,h⟩
    ·cases h
   ·rename_i h3;exact absurd h h3
  ·rename_i h2;exact absurd h h2
 ·rename_i h1;exact absurd h h1
theorem swapE_zero {f t s:List UInt8} (h1:beginE f=0) (h2:beginE t=0) (h3:linkE s=0) (h4:Lib.hasPrefix s f=true) (h5:linkE (swapX f t s)=0):swapE f t s=0:=by
 unfold swapE;rw [if_pos h1,if_pos h2,if_pos h3,if_pos h4,h5]
theorem swap_back {f t s:List UInt8} (h:swapE f t s=0):swapE t f (swapT f t s)=0∧swapT t f (swapT f t s)=s∧linkE (swapT f t s)=0∧Lib.hasPrefix (swapT f t s) t=true:=by
 obtain ⟨h1,h2,h3,h4,h5⟩:=swapE_ok h;have e:swapT f t s=swapX f t s:=by unfold swapT;rw [if_pos h]
 have hp:Lib.hasPrefix (swapX f t s) t=true:=hasPrefix_of _ _;have e2:swapX t f (swapX f t s)=s:=by
  unfold swapX;rw [List.drop_left];exact (hasPrefix_app h4).symm
 have h0:swapE t f (swapX f t s)=0:=swapE_zero h2 h1 h5 hp (by rw [e2];exact h3);rw [e];refine ⟨h0,?_,h5,hp⟩;unfold swapT;rw [if_pos h0,e2]
theorem bl_mk (l:List UInt8):bl ⟨l.toArray⟩=l:=rfl
theorem bl_append (a b:ByteArray):bl (a++b)=bl a++bl b:=by
 show (a++b).data.toList=a.data.toList++b.data.toList;rw [ByteArray.data_append,Array.toList_append]
theorem bl_extract (s:ByteArray) (i j:Nat):bl (s.extract i j)=((bl s).drop i).take (j-i):=by
 show (s.extract i j).data.toList=_;rw [ByteArray.data_extract,Array.toList_extract,List.extract_eq_take_drop];rfl
theorem bl_one (s:ByteArray) (i:Nat) (h:i<s.size):bl (s.extract i (i+1))=[s[i]]:=by
 rw [bl_extract,drop_cons s i h];simp
theorem bl_inj {a b:ByteArray} (h:bl a=bl b):a=b:=by
 cases a;cases b;congr 1;exact Array.toList_inj.1 h
theorem strCells_bl (s:ByteArray):Lib.strCells s=Lib.byteCells (bl s):=rfl
theorem byteCells_append (a b:List UInt8):Lib.byteCells (a++b)=Lib.byteCells a++Lib.byteCells b:=by simp [Lib.byteCells]
def grp:List UInt8→List (Nat×UInt8)
 | []=>[]
 |c::cs=>match grp cs with
  |(n,d)::r=>if c=d then (n+1,d)::r else (1,c)::(n,d)::r
  | []=>[(1,c)]
def runText (r:Nat×UInt8):List UInt8:=Lib.decDigits r.1++[58,r.2]
def pressL (l:List UInt8):List UInt8:=(grp l).flatMap runText
theorem grp_head:∀(l:List UInt8) (n:Nat) (d:UInt8) (r:List (Nat×UInt8)),grp l=(n,d)::r→l.head? =some d
 | [],n,d,r,h=>by cases h
 |c::cs,n,d,r,h=>by
  simp only [grp] at h;split at h
  ·split at h
   ·rename_i e;simp at h;simp [e,h.1.2]
   ·simp at h;simp [h.1.2]
  ·simp at h;simp [h.1.2]
theorem grp_run (c:UInt8) (rest:List UInt8) (hr:rest.head?≠some c):∀n,grp (List.replicate (n+1) c++rest)=(n+1,c)::grp rest
 |0=>by
  simp only [List.replicate,List.cons_append,List.nil_append,grp]
  cases h:grp rest with
  |nil=>rfl
  |cons p r=>
   obtain ⟨m,d⟩:=p;have:=grp_head _ _ _ _ h;simp only;rw [if_neg (by rintro rfl;exact hr this)]
 |n+1=>by
  have ih:=grp_run c rest hr n;rw [List.replicate_succ,List.cons_append,grp,ih];simp
theorem pressL_run (c:UInt8) (rest:List UInt8) (n:Nat) (hn:0<n) (hr:rest.head?≠some c):pressL (List.replicate n c++rest)=runText (n,c)++pressL rest:=by
 obtain ⟨m,rfl⟩:∃m,n=m+1:=⟨n-1,by omega⟩;rw [pressL,grp_run c rest hr m];rfl
theorem runText_len (n:Nat) (c:UInt8) (hn:n≤9223372036854775807):(runText (n,c)).length≤23:=by
 have h:=Lib.itoa_length_le (n:Int) (by omega) (by omega);have e:Lib.itoa (n:Int)=Lib.decDigits n:=by unfold Lib.itoa;rw [if_neg (by omega)];simp
 rw [e] at h;simp [runText];omega
theorem decDigits_small {n:Nat} (h:n<10):Lib.decDigits n=[UInt8.ofNat (48+n)]:=by rw [Lib.decDigits,dif_pos h]
theorem decDigits_step {n:Nat} (h:¬n<10):Lib.decDigits n=Lib.decDigits (n/10)++[UInt8.ofNat (48+n%10)]:=by rw [Lib.decDigits,dif_neg h]
theorem decDigits_len (n:Nat) (hn:n≤9223372036854775807):(Lib.decDigits n).length≤21:=by
 have h:=Lib.itoa_length_le (n:Int) (by omega) (by omega);have e:Lib.itoa (n:Int)=Lib.decDigits n:=by unfold Lib.itoa;rw [if_neg (by omega)];simp
 rwa [e] at h
theorem itoa_nat (n:Nat):Lib.itoa (n:Int)=Lib.decDigits n:=by unfold Lib.itoa;rw [if_neg (by omega)];simp
theorem cut_miss {c:UInt8} {r:List UInt8} (h:c∉r):Lib.cut r [c]=(r,[],false):=by
 have hi:Lib.index r [c]= -1:=by
  have hge:=Lib.index_ge r [c];by_cases hm:Lib.index r [c]= -1
  ·exact hm
  ·obtain ⟨i,hi⟩:∃i:Nat,Lib.index r [c]=i:=⟨(Lib.index r [c]).toNat,by omega⟩;obtain ⟨_,_,h3⟩:=index_byte_hit hi;exact absurd (by rw [h3];simp) h
 unfold Lib.cut;rw [hi];rfl
theorem cut_hit {c:UInt8} {a b:List UInt8} (h:c∉a):Lib.cut (a++c::b) [c]=(a,b,true):=by
 have hx:Lib.index (a++c::b) [c]=a.length:=by
  have hge:=Lib.index_ge (a++c::b) [c];by_cases hm:Lib.index (a++c::b) [c]= -1
  ·exact absurd (by simp) (index_byte_none hm)
  ·obtain ⟨i,hi⟩:∃i:Nat,Lib.index (a++c::b) [c]=i:=⟨(Lib.index (a++c::b) [c]).toNat,by omega⟩;obtain ⟨h1,h2,h3⟩:=index_byte_hit hi;have hle:i≤a.length:=by
    by_cases hq:i≤a.length
    ·exact hq
    ·exfalso;apply h1;rw [List.take_append,List.mem_append];right;rw [show i-a.length=(i-a.length-1)+1 by omega,List.take_succ_cons];simp
   have hge2:a.length≤i:=by
    by_cases hq:a.length≤i
    ·exact hq
    ·exfalso;have hg:(a++c::b)[i]? =some c:=by
      rw [h3,List.getElem?_append_right (by simp;omega)];rw [List.length_take,show min i (a++c::b).length=i by omega,Nat.sub_self];rfl
     rw [List.getElem?_append_left (by omega)] at hg;exact h (List.mem_of_getElem? hg)
   omega
 unfold Lib.cut;rw [hx,if_pos (by omega)];simp
theorem trim_last (l:List UInt8):Lib.trimSuffix l [47]=if l.getLast? =some 47 then l.dropLast else l:=by
 by_cases h:l.getLast? =some 47
 ·obtain ⟨r,rfl⟩:∃r,l=r++[47]:=by
   cases l with
   |nil=>cases h
   |cons x t=>
    have:=List.dropLast_concat_getLast (l:=x::t) (by simp);refine ⟨(x::t).dropLast,?_⟩;rw [List.getLast?_eq_some_getLast (by simp)] at h;rw [←Option.some.inj h];exact this.symm
  have hs:Lib.hasSuffix (r++[47]) [47]=true:=List.isSuffixOf_iff_suffix.2 ⟨r,rfl⟩;unfold Lib.trimSuffix;rw [if_pos h,hs,List.dropLast_concat];simp
 ·have hs:Lib.hasSuffix l [47]=false:=by
   cases hq:Lib.hasSuffix l [47] with
   |false=>rfl
   |true=>
    obtain ⟨r,hr⟩:=List.isSuffixOf_iff_suffix.1 hq;exact absurd (by rw [←hr];simp) h
  unfold Lib.trimSuffix;rw [if_neg h,hs];rfl
abbrev sM:Nat:=1000000007
def sumFrom (n:Nat) (l:List UInt8):Nat:=l.foldl (fun n b=>(n*263+b.toNat+1)%sM) n
def sumL (l:List UInt8):Nat:=sumFrom 0 l
def polFrom (n:Nat) (l:List UInt8):Nat:=l.foldl (fun n b=>n*263+b.toNat+1) n
def polL (l:List UInt8):Nat:=polFrom 0 l
theorem sumFrom_cons (n:Nat) (b:UInt8) (l:List UInt8):sumFrom n (b::l)=sumFrom ((n*263+b.toNat+1)%sM) l:=rfl
theorem polFrom_cons (n:Nat) (b:UInt8) (l:List UInt8):polFrom n (b::l)=polFrom (n*263+b.toNat+1) l:=rfl
theorem step_modM (M m b:Nat):((m%M)*263+b+1)%M=(m*263+b+1)%M:=by
 have h:(m%M)*263+b+1=(m%M)*263+(b+1):=Nat.add_assoc _ _ _;have h2:m*263+b+1=m*263+(b+1):=Nat.add_assoc _ _ _;rw [h,h2,Nat.add_mod,Nat.mul_mod,Nat.mod_mod,←Nat.mul_mod,←Nat.add_mod]
theorem step_mod (m b:Nat):((m%sM)*263+b+1)%sM=(m*263+b+1)%sM:=step_modM sM m b
theorem sumFrom_pol:∀(l:List UInt8) (m:Nat),sumFrom (m%sM) l=polFrom m l%sM
 | [],m=>rfl
 |b::l,m=>by rw [sumFrom_cons,polFrom_cons,step_mod,sumFrom_pol l]
theorem sumL_pol (l:List UInt8):sumL l=polL l%sM:=sumFrom_pol l 0
theorem sumL_lt (l:List UInt8):sumL l<sM:=by rw [sumL_pol];exact Nat.mod_lt _ (by decide)
theorem polFrom_add:∀(l:List UInt8) (n:Nat),polFrom n l=n*263 ^ l.length+polL l
 | [],n=>by simp [polFrom,polL]
 |b::l,n=>by
  have h1:=polFrom_add l (n*263+b.toNat+1);have h2:=polFrom_add l (0*263+b.toNat+1);rw [polFrom_cons,h1];show _=_+polFrom 0 (b::l);rw [polFrom_cons,h2,List.length_cons,Nat.pow_succ];generalize 263 ^ l.length=X;generalize b.toNat=B;have e1:(n*263+B+1)*X=n*263*X+(B+1)*X:=by rw [←Nat.add_mul,Nat.add_assoc]
  have e2:(0*263+B+1)*X=(B+1)*X:=by rw [Nat.zero_mul,Nat.zero_add]
  have e3:n*(X*263)=n*263*X:=by rw [Nat.mul_comm X,Nat.mul_assoc]
  rw [e1,e2,e3];omega
theorem polL_append (a b:List UInt8):polL (a++b)=polL a*263 ^ b.length+polL b:=by
 have:polL (a++b)=polFrom (polL a) b:=by simp [polL,polFrom,List.foldl_append]
 rw [this,polFrom_add]
def powM (n:Nat):Nat:=263 ^ n%sM
def joinN (a b n:Nat):Nat:=(a*powM n+b)%sM
theorem sumL_append (a b:List UInt8):sumL (a++b)=joinN (sumL a) (sumL b) b.length:=by
 rw [sumL_pol,polL_append,joinN,powM,sumL_pol,sumL_pol,Nat.add_mod,Nat.mul_mod];simp [Nat.add_mod]
theorem pow_half (x n:Nat):(x ^ n)%sM=((x*x%sM) ^ (n/2)*(if n%2=1 then x else 1))%sM:=by
 have h:=Nat.div_add_mod n 2;have h1:x ^ n=(x*x) ^ (n/2)*x ^ (n%2):=by
  rw [show x*x=x ^ 2 by rw [Nat.pow_two],←Nat.pow_mul,←Nat.pow_add,h]
 rw [h1,Nat.mul_mod,Nat.pow_mod,←Nat.mul_mod];rcases Nat.mod_two_eq_zero_or_one n with h2|h2<;>rw [h2]<;>simp [Nat.mul_mod]
def valD (m:Nat) (ds:List UInt8):Nat:=ds.foldl (fun m c=>10*m+(c.toNat-48)) m
def isD (c:UInt8):Prop:=48≤c.toNat∧c.toNat≤57
theorem ofNat_digit (n:Nat) (h:n<10):(UInt8.ofNat (48+n)).toNat=48+n:=by
 rw [UInt8.toNat_ofNat'];omega
theorem decDigits_isD:∀n,∀c∈Lib.decDigits n,isD c:=by
 intro n;induction n using Nat.strongRecOn with
 |_ n ih=>
  by_cases h:n<10
  ·rw [decDigits_small h];intro c hc;obtain rfl:=List.mem_singleton.1 hc;have:=ofNat_digit n h;exact ⟨by omega,by omega⟩
  ·rw [decDigits_step h];intro c hc;rcases List.mem_append.1 hc with hc|hc
   ·exact ih (n/10) (by omega) c hc
   ·obtain rfl:=List.mem_singleton.1 hc;have:=ofNat_digit (n%10) (by omega);exact ⟨by omega,by omega⟩
theorem valD_dec:∀n,valD 0 (Lib.decDigits n)=n:=by
 intro n;induction n using Nat.strongRecOn with
 |_ n ih=>
  by_cases h:n<10
  ·rw [decDigits_small h];have:=ofNat_digit n h;simp only [valD,List.foldl_cons,List.foldl_nil];omega
  ·rw [decDigits_step h];have h1:=ih (n/10) (by omega);have h2:=ofNat_digit (n%10) (by omega);simp only [valD,List.foldl_append,List.foldl_cons,List.foldl_nil] at h1⊢;rw [h1];omega
theorem decDigits_ne (n:Nat):Lib.decDigits n≠[]:=by
 by_cases h:n<10
 ·rw [decDigits_small h];simp
 ·rw [decDigits_step h];simp
theorem decDigits_len_le:∀(j n:Nat),n<10 ^ (j+1)→(Lib.decDigits n).length≤j+1
 |0,n,h=>by rw [decDigits_small (by simpa using h)];simp
 |j+1,n,h=>by
  by_cases h1:n<10
  ·rw [decDigits_small h1];simp
  ·rw [decDigits_step h1,List.length_append];have:=decDigits_len_le j (n/10) (by rw [Nat.pow_succ] at h;omega);simp only [List.length_cons,List.length_nil];omega
def numOf (l:List UInt8) (most:Nat):Option Nat:=if l.length≤most∧Lib.decDigits (valD 0 l)=l then some (valD 0 l) else none
theorem numOf_dec (n most:Nat) (h:(Lib.decDigits n).length≤most):numOf (Lib.decDigits n) most=some n:=by
 unfold numOf;rw [if_pos ⟨h,by rw [valD_dec]⟩,valD_dec]
theorem numOf_some {l:List UInt8} {most n:Nat} (h:numOf l most=some n):l=Lib.decDigits n∧l.length≤most:=by
 unfold numOf at h;split at h
 ·rename_i hc;simp only [Option.some.injEq] at h;rw [h] at hc;exact ⟨hc.2.symm,hc.1⟩
 ·cases h
theorem valD_lt:∀(l:List UInt8) (m:Nat),(∀c∈l,isD c)→valD m l<(m+1)*10 ^ l.length
 | [],m,_=>by simp [valD]
 |c::l,m,h=>by
  have hc:=h c (by simp);have ih:=valD_lt l (10*m+(c.toNat-48)) (fun x hx=>h x (by simp [hx]));show valD (10*m+(c.toNat-48)) l<_;refine Nat.lt_of_lt_of_le ih ?_;rw [List.length_cons,Nat.pow_succ,Nat.mul_comm (10 ^ l.length) 10,←Nat.mul_assoc];exact Nat.mul_le_mul_right _ (by have:=hc.2;omega)
theorem parse_digits:∀(l:List UInt8) (m:Nat),(∀c∈l,isD c)→(m+1)*10 ^ l.length≤1000000000000000000→Lib.parseUint10 m l=.ok (valD m l)
 | [],m,_,_=>rfl
 |c::l,m,h,hb=>by
  have hc:=h c (by simp);have hp:1≤10 ^ l.length:=Nat.one_le_pow _ _ (by decide);rw [List.length_cons,Nat.pow_succ,Nat.mul_comm (10 ^ l.length) 10,←Nat.mul_assoc] at hb;have h2:(m+1)*10≤1000000000000000000:=Nat.le_trans (Nat.le_mul_of_pos_right _ hp) hb;have hb2:(10*m+(c.toNat-48)+1)*10 ^ l.length≤1000000000000000000:=Nat.le_trans (Nat.mul_le_mul_right _ (by have:=hc.2;omega)) hb;have ih:=parse_digits l (10*m+(c.toNat-48)) (fun x hx=>h x (by simp [hx])) hb2;have hcc:48≤c.toNat∧c.toNat≤57:=hc;show (if _ then (if _ then _ else if _ then _ else Lib.parseUint10 (m*10+(c.toNat-48)) l) else _)=_;rw [if_pos hcc,if_neg (by omega),if_neg (by omega),Nat.mul_comm m 10,ih];rfl
theorem atoi_dec (n:Nat) (hn:(Lib.decDigits n).length≤18):Lib.atoiAll (Lib.decDigits n)=.ok (n:Int):=by
 have hd:=decDigits_isD n;have hne:=decDigits_ne n;have hv:=valD_dec n;have hlt:=valD_lt (Lib.decDigits n) 0 hd;generalize Lib.decDigits n=l at*
 cases l with
 |nil=>exact absurd rfl hne
 |cons c l=>
  have hc:=hd c (by simp);have hp:10 ^ (c::l).length≤10 ^ 18:=Nat.pow_le_pow_right (by decide) hn;rw [Lib.atoiAll_plain c l (by have:=hc.1;omega) (by have:=hc.1;omega)];have e:Lib.parseMag (c::l)=.ok n:=by
   unfold Lib.parseMag;rw [if_neg (by simp),parse_digits _ 0 hd (by omega),hv]
  rw [e];show (if _ then _ else _)=_;rw [hv] at hlt;rw [if_neg (by omega)]
theorem numGo_step (s:ByteArray) (k m:Nat) (h:k<s.size):numGo ((bl s).drop k) k m=
  if k<9∧48≤s[k].toNat∧s[k].toNat≤57∧(0<k∨s[k].toNat≠48) then numGo ((bl s).drop (k+1)) (k+1) (10*m+(s[k].toNat-48)) else (m,k):=by
 rw [drop_cons s k h];rfl
theorem numGo_yes (s:ByteArray) (k m:Nat) (h:k<s.size) (a:(k:Int)<9) (b:48≤(s[k].toNat:Int)) (c:(s[k].toNat:Int)≤57) (d:0<k∨s[k].toNat≠48):
  numGo ((bl s).drop (k+1)) (k+1) (10*m+(s[k].toNat-48))=numGo ((bl s).drop k) k m:=by
 rw [numGo_step s k m h,if_pos ⟨by omega,by omega,by omega,d⟩]
theorem numGo_no (s:ByteArray) (k m:Nat) (h:k<s.size) (a:¬(k<9∧48≤s[k].toNat∧s[k].toNat≤57∧(0<k∨s[k].toNat≠48))):
  numGo ((bl s).drop k) k m=(m,k):=by
 rw [numGo_step s k m h,if_neg a]
theorem number_any (s:ByteArray) (w:World) (hs:s.size≤9223372036854775807):
  Calls Tryz.prog 267 #[.string s] w fun e w'=>
   e=.returned (.tuple #[.int .i64 ((numGo (bl s) 0 0).1:Nat),.int .i64 ((numGo (bl s) 0 0).2:Nat)])∧w=w':=by
 go_enter Tryz.func267,Tryz.ntmps267
 go_wp2
 go_loop [2,3] (fun n i=>∃k m:Nat,k≤s.size∧k≤9∧m<10 ^ k∧i=.int .i64 k∧n=.int .i64 m∧Hid (numGo ((bl s).drop k) k m=numGo (bl s) 0 0)) (fun _ i=>s.size- (intOf i).toNat)
 case atStart=>exact ⟨0,0,Nat.zero_le _,Nat.zero_le _,by decide,rfl,rfl,rfl⟩
 case round=>
  obtain ⟨k,m,hk,hk9,hm,rfl,rfl,H⟩:=hrel;have hp:10 ^ k≤10 ^ 9:=Nat.pow_le_pow_right (by decide) hk9;have hm9:m<1000000000:=Nat.lt_of_lt_of_le hm hp;clear hp;by_cases hlt:k<s.size
  ·by_cases hk0:k=0
   ·subst hk0
    go_wp2
    ·have q:((s[0].toNat:Int) != 48)=true:=by assumption
     have q':s[0].toNat≠48:=by have:=bne_iff_ne.1 q;omega
     go_round
     case rel=>
      refine ⟨1,10*m+(s[0].toNat-48),by omega,by omega,by simp at hm;subst hm;omega,rfl,by go_num,?_⟩;have:=H.out;rw [←numGo_yes s 0 m hlt (by omega) (by omega) (by omega) (.inr q')] at this;exact this
     case measure=>simp [intOf];omega
    all_goals
     have q:¬(0<9∧48≤s[0].toNat∧s[0].toNat≤57∧(0<0∨s[0].toNat≠48)):=by
      first|omega|(have q:((s[0].toNat:Int) != 48)=false:=(by assumption);have q:=bne_eq_false_iff_eq.1 q;omega)
     go_ret2;rw [←H.out,numGo_no s 0 m hlt q];exact ⟨rfl,rfl⟩
   ·have hk1:0<k:=by omega
    go_wp2
    ·go_round
     case rel=>
      refine ⟨k+1,10*m+(s[k].toNat-48),by omega,by omega,by rw [Nat.pow_succ];omega,by go_num,by go_num,?_⟩;have:=H.out;rw [←numGo_yes s k m hlt (by omega) (by omega) (by omega) (.inl hk1)] at this;exact this
     case measure=>simp [intOf];omega
    all_goals
     go_ret2;rw [←H.out,numGo_no s k m hlt (by omega)];exact ⟨rfl,rfl⟩
  ·have e:numGo ((bl s).drop k) k m=(m,k):=by rw [drop_nil s k (by omega)];rfl
   have E:=Lib.hid e;clear e
   go_wp2
   go_ret2;rw [←H.out,E.out];exact ⟨rfl,rfl⟩
end Go.Proofs.YtaabgmbjmfjdjaaGreatDoor
