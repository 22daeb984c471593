import Derived.Test.YtaabgmbjmfjdjaaGreatDoorJPlainly
import Derived.Test.YtaabgmbjmfjdjaaGreatDoorJErrors
import Derived.Test.YtaabgmbjmfjdjaaGreatDoorJTreePlains
import Derived.Test.YtaabgmbjmfjdjaaGreatDoorJHeldUp
import Derived.Test.YtaabgmbjmfjdjaaGreatDoorJSummed
import Derived.Test.YtaabgmbjmfjdjaaGreatDoorJPackedUpEtc
namespace Go.Proofs.YtaabgmbjmfjdjaaGreatDoor
open Go
def parse:Nat→List UInt8→Nat→List (Nat×UInt8)×Option Nat
 |0,_,_=>([],none)
 |f+1,l,pos=>
  if l=[] then ([],none)
  else if (numGo l 0 0).2=0 then ([],some pos)
  else match l.drop (numGo l 0 0).2 with
   | []=>([],some (pos+(numGo l 0 0).2))
   |c::r=>if c≠58 then ([],some (pos+(numGo l 0 0).2)) else match r with
    | []=>([],some (pos+(numGo l 0 0).2+1))
    |d::r2=>(((numGo l 0 0).1,d)::(parse f r2 (pos+(numGo l 0 0).2+2)).1,(parse f r2 (pos+(numGo l 0 0).2+2)).2)
def runsL (l:List UInt8):List (Nat×UInt8)×Option Nat:=parse (l.length+1) l 0
theorem numGo_le:∀(l:List UInt8) (k m:Nat),k≤(numGo l k m).2∧(numGo l k m).2≤k+l.length
 | [],k,m=>⟨Nat.le_refl _,Nat.le_refl _⟩
 |c::cs,k,m=>by
  unfold numGo;split
  ·have:=numGo_le cs (k+1) (10*m+(c.toNat-48));simp only [List.length_cons];omega
  ·simp
theorem numGo_nine:∀(l:List UInt8) (k m:Nat),k≤9→m<10 ^ k→(numGo l k m).2≤9∧(numGo l k m).1<10 ^ (numGo l k m).2
 | [],k,m,hk,hm=>⟨hk,hm⟩
 |c::cs,k,m,hk,hm=>by
  unfold numGo;split
  ·rename_i h;exact numGo_nine cs (k+1) _ (by omega) (by rw [Nat.pow_succ];omega)
  ·exact ⟨hk,hm⟩
theorem numGo_lt (l:List UInt8):(numGo l 0 0).1<1000000000:=by
 have h:=numGo_nine l 0 0 (by omega) (by decide);exact Nat.lt_of_lt_of_le h.2 (Nat.pow_le_pow_right (by decide) h.1)
structure PP (s:ByteArray) (i:Nat) (acc:List (Nat×UInt8)):Prop where
 ex:∃f,s.size-i<f∧acc++(parse f ((bl s).drop i) i).1=(runsL (bl s)).1∧(parse f ((bl s).drop i) i).2=(runsL (bl s)).2
theorem PP.start (s:ByteArray):PP s 0 []:=⟨⟨(bl s).length+1,by rw [bl_length];omega,rfl,rfl⟩⟩
theorem PP.done {s:ByteArray} {i:Nat} {acc:List (Nat×UInt8)} (h:PP s i acc) (hi:¬i<s.size):runsL (bl s)=(acc,none):=by
 obtain ⟨f,hf,h1,h2⟩:=h.ex;rw [drop_nil s i (by omega)] at h1 h2
 match f,hf with
 |f+1,_=>
  simp [parse] at h1 h2;exact Prod.ext h1.symm h2.symm
theorem parse_none {s:ByteArray} {i f:Nat} (hi:i<s.size) (h0:(numGo ((bl s).drop i) 0 0).2=0):parse (f+1) ((bl s).drop i) i=([],some i):=by
 have hne:(bl s).drop i≠[]:=by rw [drop_cons s i hi];simp
 simp only [parse];rw [if_neg hne,if_pos h0]
theorem parse_end {s:ByteArray} {i f k:Nat} (hi:i<s.size) (hk:(numGo ((bl s).drop i) 0 0).2=k) (h0:k≠0) (he:i+k=s.size):parse (f+1) ((bl s).drop i) i=([],some (i+k)):=by
 have hne:(bl s).drop i≠[]:=by rw [drop_cons s i hi];simp
 simp only [parse];rw [if_neg hne,hk,if_neg h0,List.drop_drop,drop_nil s _ (by omega)]
theorem parse_sign {s:ByteArray} {i f k:Nat} (hi:i<s.size) (hk:(numGo ((bl s).drop i) 0 0).2=k) (h0:k≠0) (he:i+k<s.size) (hc:s[i+k]≠58):parse (f+1) ((bl s).drop i) i=([],some (i+k)):=by
 have hne:(bl s).drop i≠[]:=by rw [drop_cons s i hi];simp
 simp only [parse];rw [if_neg hne,hk,if_neg h0,List.drop_drop,drop_cons s _ he];simp only;rw [if_pos hc]
theorem parse_last {s:ByteArray} {i f k:Nat} (hi:i<s.size) (hk:(numGo ((bl s).drop i) 0 0).2=k) (h0:k≠0) (he:i+k<s.size) (hc:s[i+k]=58) (hl:i+k+1=s.size):parse (f+1) ((bl s).drop i) i=([],some (i+k+1)):=by
 have hne:(bl s).drop i≠[]:=by rw [drop_cons s i hi];simp
 simp only [parse];rw [if_neg hne,hk,if_neg h0,List.drop_drop,drop_cons s _ he];simp only;rw [if_neg (by simp [hc]),drop_nil s _ (by omega)]
theorem parse_run {s:ByteArray} {i f k:Nat} (hi:i<s.size) (hk:(numGo ((bl s).drop i) 0 0).2=k) (h0:k≠0) (he:i+k+1<s.size) (hc:s[i+k]=58):
  parse (f+1) ((bl s).drop i) i=(((numGo ((bl s).drop i) 0 0).1,s[i+k+1])::(parse f ((bl s).drop (i+k+2)) (i+k+2)).1,(parse f ((bl s).drop (i+k+2)) (i+k+2)).2):=by
 have hne:(bl s).drop i≠[]:=by rw [drop_cons s i hi];simp
 simp only [parse];rw [if_neg hne,hk,if_neg h0,List.drop_drop,drop_cons s _ (show i+k<s.size by omega)];simp only;rw [if_neg (by simp [hc]),drop_cons s _ he]
theorem PP.fail {s:ByteArray} {i:Nat} {acc:List (Nat×UInt8)} {p:Nat} (h:PP s i acc) (hp:∀f,parse (f+1) ((bl s).drop i) i=([],some p)):runsL (bl s)=(acc,some p):=by
 obtain ⟨f,hf,h1,h2⟩:=h.ex
 match f,hf with
 |f+1,_=>
  rw [hp f] at h1 h2;exact Prod.ext (by simpa using h1.symm) h2.symm
theorem PP.step {s:ByteArray} {i k:Nat} {acc:List (Nat×UInt8)} (h:PP s i acc) (hi:i<s.size) (hk:(numGo ((bl s).drop i) 0 0).2=k) (h0:k≠0) (he:i+k+1<s.size) (hc:s[i+k]=58):
  PP s (i+k+2) (acc++[((numGo ((bl s).drop i) 0 0).1,s[i+k+1])]):=by
 obtain ⟨f,hf,h1,h2⟩:=h.ex
 match f,hf with
 |f+1,hf=>
  rw [parse_run hi hk h0 he hc] at h1 h2;exact ⟨⟨f,by omega,by simpa using h1,h2⟩⟩
theorem PP.rest {s:ByteArray} {i:Nat} {acc:List (Nat×UInt8)} {r:Nat×UInt8} (h:PP s i (acc++[r])):∃rest,acc++r::rest=(runsL (bl s)).1:=by
 obtain ⟨f,hf,h1,h2⟩:=h.ex;exact ⟨_,by simpa using h1⟩
def sumR (l:List (Nat×UInt8)):Nat:=(l.map (·.1)).sum
theorem sumR_append (a b:List (Nat×UInt8)):sumR (a++b)=sumR a+sumR b:=by simp [sumR]
theorem sumR_cons (r:Nat×UInt8) (b:List (Nat×UInt8)):sumR (r::b)=r.1+sumR b:=by simp [sumR]
theorem parse_sum:∀(f:Nat) (l:List UInt8) (p:Nat),sumR (parse f l p).1≤l.length*1000000000
 |0,l,p=>by simp [parse,sumR]
 |f+1,l,p=>by
  unfold parse;split
  ·simp [sumR]
  ·split
   ·simp [sumR]
   ·rename_i hne h0;split
    ·simp [sumR]
    ·rename_i c r hd;split
     ·simp [sumR]
     ·split
      ·simp [sumR]
      ·rename_i d r2;have ih:=parse_sum f r2 (p+(numGo l 0 0).2+2);have hn:=numGo_lt l;have hlen:(l.drop (numGo l 0 0).2).length=r2.length+2:=by rw [hd];rfl
       rw [List.length_drop] at hlen;rw [sumR_cons];have:(r2.length+1)*1000000000≤l.length*1000000000:=Nat.mul_le_mul_right _ (by omega);simp only;omega
theorem runs_sum (l:List UInt8):sumR (runsL l).1≤l.length*1000000000:=parse_sum _ _ _
def openR (l:List (Nat×UInt8)):List UInt8:=l.flatMap fun r=>List.replicate r.1 r.2
theorem openR_length (l:List (Nat×UInt8)):(openR l).length=sumR l:=by
 induction l with
 |nil=>rfl
 |cons a l ih=>rw [sumR_cons,←ih];simp [openR]
def openT (r:List (Nat×UInt8)×Option Nat) (most:Int):List UInt8:=match r.2 with
 |none=>if (sumR r.1:Int)>most then [] else openR r.1
 |some _=>[]
def openE (r:List (Nat×UInt8)×Option Nat) (most:Int):Er:=match r.2 with
 |none=>if (sumR r.1:Int)>most then Er.base 8 else Er.nil
 |some p=>Er.fault p 1
theorem open_some {r:List (Nat×UInt8)×Option Nat} {p:Nat} (h:r.2=some p) (most:Int):openT r most=[]∧openE r most=Er.fault p 1:=by
 unfold openT openE;rw [h];exact ⟨rfl,rfl⟩
theorem open_much {r:List (Nat×UInt8)×Option Nat} (h:r.2=none) {most:Int} (hm:most<(sumR r.1:Int)):openT r most=[]∧openE r most=Er.base 8:=by
 unfold openT openE;rw [h];simp only;rw [if_pos hm,if_pos hm];exact ⟨rfl,rfl⟩
theorem open_fine {r:List (Nat×UInt8)×Option Nat} (h:r.2=none) {most:Int} (hm:¬most<(sumR r.1:Int)):openT r most=openR r.1∧openE r most=Er.nil:=by
 unfold openT openE;rw [h];simp only;rw [if_neg hm,if_neg hm];exact ⟨rfl,rfl⟩
theorem openR_append (a b:List (Nat×UInt8)):openR (a++b)=openR a++openR b:=by simp [openR]
structure WantB where
 name:ByteArray
 url:ByteArray
 kind:ByteArray
 strip:Int
 sum:Int
instance :DecidableEq WantB:=fun a b=>decidable_of_iff (a.name=b.name∧a.url=b.url∧a.kind=b.kind∧a.strip=b.strip∧a.sum=b.sum) (by cases a;cases b;simp)
def kPlain:List UInt8:=[112,108,97,105,110]
def kPack:List UInt8:=[112,97,99,107]
def kPress:List UInt8:=[112,114,101,115,115]
def wkinds:List (List UInt8):=[kPlain,kPack,kPress]
def wantE (w:WantB):Nat:=
 if partB (bl w.name)=false then 5
 else if linkE (bl w.url)≠0 then linkE (bl w.url)
 else if wkinds.contains (bl w.kind)=false then 4
 else if w.strip<0∨6<w.strip then 2
 else if bl w.kind=kPlain∧w.strip≠0 then 3
 else if rightB w.sum=false then 2
 else 0
theorem wantE_le (w:WantB):wantE w≤13:=by
 have h:∀a b c d:Bool,(if a=true then 4 else if b=true then 2 else if c=true then 3 else if d=true then 2 else 0)≤13:=by decide
 unfold wantE;split
 ·decide
 ·split
  ·exact linkE_le _
  ·split
   ·decide
   ·split
    ·decide
    ·split
     ·decide
     ·split<;>decide
def wantTx (w:WantB):List UInt8:=if wantE w≠0 then [] else bl w.name++32::(bl w.url++32::(bl w.kind++32::(Lib.decDigits w.strip.toNat++32::115::Lib.decDigits w.sum.toNat)))
def zeroW:WantB:=⟨⟨#[]⟩,⟨#[]⟩,⟨#[]⟩,0,0⟩
def mkW (a b c:List UInt8) (n m:Nat):WantB:=⟨⟨a.toArray⟩,⟨b.toArray⟩,⟨c.toArray⟩,n,m⟩
def fiveW:List (List UInt8)→Option WantB
 | [a,b,c,d,e]=>match numOf d 1,readS e with
  |some n,some m=>some (mkW a b c n m)
  |_,_=>none
 |_=>none
def readW (s:List UInt8):Nat×WantB:=match fiveW (cutL 32 s) with
 |none=>(1,zeroW)
 |some x=>if wantE x≠0 then (wantE x,zeroW) else (0,x)
def unpackT (s:List UInt8) (n:Int):Nat×List FileB:=if (readEr s).code≠0 then ((readEr s).code,[]) else ((stripTr (readT s) n).1.code,(stripTr (readT s) n).2)
def oneFile (n s:ByteArray):List FileB:=[⟨n,false,s⟩]
def openW (w:WantB) (s:ByteArray):Nat×List FileB:=
 if wantE w≠0 then (wantE w,[])
 else if 20000<s.size then (2,[])
 else if bl w.kind=kPack then unpackT (bl s) w.strip
 else if bl w.kind=kPress then (if (openE (runsL (bl s)) 20000).code≠0 then ((openE (runsL (bl s)) 20000).code,[]) else unpackT (openT (runsL (bl s)) 20000) w.strip)
 else if (treeEr (oneFile w.name s)).code≠0 then ((treeEr (oneFile w.name s)).code,[]) else (0,oneFile w.name s)
def rightW (w:WantB) (s:ByteArray):Nat×List FileB:=
 if (openW w s).1≠0 then ((openW w s).1,[])
 else if treeSum (openW w s).2≠w.sum then (12,[])
 else (0,(openW w s).2)
theorem unpackT_ok {s:List UInt8} {n:Int} (h:(unpackT s n).1=0):TreeOk (unpackT s n).2:=by
 unfold unpackT at h⊢;by_cases h1:(readEr s).code≠0
 ·rw [if_pos h1] at h;exact absurd h h1
 ·rw [if_neg h1] at h⊢;exact (stripTr_ok h).2
theorem openW_ok {w:WantB} {s:ByteArray} (h:(openW w s).1=0):TreeOk (openW w s).2:=by
 unfold openW at h⊢;split at h
 ·rename_i h1;exact absurd h h1
 ·rename_i h1;rw [if_neg h1];split at h
  ·cases h
  ·rename_i h2;rw [if_neg h2];split at h
   ·rename_i h3;rw [if_pos h3];exact unpackT_ok h
   ·rename_i h3;rw [if_neg h3];split at h
    ·rename_i h4;rw [if_pos h4];split at h
     ·rename_i h5;exact absurd h h5
     ·rename_i h5;rw [if_neg h5];exact unpackT_ok h
    ·rename_i h4;rw [if_neg h4];split at h
     ·rename_i h5;exact absurd h h5
     ·rename_i h5;rw [if_neg h5];exact (treeOk_iff _).1 (by simpa using h5)
def lockE (prev:Option WantB) (w:WantB):Nat:=
 if wantE w≠0 then wantE w else match prev with
  |none=>0
  |some p=>if leqB (bl w.name) (bl p.name)=true then 9 else 0
def lockGo:Option WantB→Nat→List WantB→Option (Nat×Nat)
 |_,_,[]=>none
 |prev,i,w::l=>if lockE prev w≠0 then some (i,lockE prev w) else lockGo (some w) (i+1) l
def lockEr (l:List WantB):Er:=if 20<l.length then ⟨8,none⟩ else match lockGo none 0 l with
 |some p=>⟨p.2,some (p.1:Int)⟩
 |none=>⟨0,none⟩
def findW (n:ByteArray):List WantB→Option Nat
 | []=>none
 |w::l=>if w.name=n then some 0 else (findW n l).map (·+1)
def wLt (a b:WantB):Prop:=bl a.name<bl b.name
instance (a b:WantB):Decidable (wLt a b):=inferInstanceAs (Decidable (bl a.name<bl b.name))
def placeW (l:List WantB) (w:WantB):Nat:=(l.takeWhile fun x=>decide (wLt x w)).length
def setLk (l:List WantB) (w:WantB):Er×List WantB:=
 if (lockEr l).code≠0 then (lockEr l,[])
 else if wantE w≠0 then (⟨wantE w,none⟩,[])
 else if (findW w.name l).isSome=true then (⟨0,none⟩,l.take (placeW l w)++w::l.drop (placeW l w+1))
 else if 20≤l.length then (⟨8,none⟩,[])
 else (⟨0,none⟩,l.take (placeW l w)++w::l.drop (placeW l w))
def dropLk (l:List WantB) (n:ByteArray):Er×List WantB:=
 if (lockEr l).code≠0 then (lockEr l,[])
 else match findW n l with
  |none=>(⟨6,none⟩,[])
  |some k=>(⟨0,none⟩,l.eraseIdx k)
def missGo (h:HeldB):Nat→List WantB→Option Nat
 |_,[]=>none
 |i,w::l=>if (ixOf w.sum h.sums).isSome=true then missGo h (i+1) l else some i
def graftsGo (h:HeldB):List FileB→List WantB→Nat×List FileB
 |all,[]=>(0,all)
 |all,w::l=>
  if (graftT all w.name ((getL h.trees w.sum).getD [])).1.code≠0 then ((graftT all w.name ((getL h.trees w.sum).getD [])).1.code,[])
  else graftsGo h (graftT all w.name ((getL h.trees w.sum).getD [])).2 l
def bundleLk (h:HeldB) (l:List WantB):Er×List UInt8:=
 if (lockEr l).code≠0 then (lockEr l,[])
 else match missGo h 0 l with
  |some i=>(⟨6,some (i:Int)⟩,[])
  |none=>if (graftsGo h [] l).1≠0 then (⟨(graftsGo h [] l).1,none⟩,[]) else (⟨0,none⟩,packL (graftsGo h [] l).2)
def splitGo (all:List FileB):Nat→List WantB→Er×List (List FileB)
 |_,[]=>(⟨0,none⟩,[])
 |i,w::l=>
  if (treeEr (underL all w.name)).code≠0 then (⟨(treeEr (underL all w.name)).code,some (i:Int)⟩,[])
  else if treeSum (underL all w.name)≠w.sum then (⟨12,some (i:Int)⟩,[])
  else ((splitGo all (i+1) l).1,underL all w.name::(splitGo all (i+1) l).2)
def splitLk (l:List WantB) (s:List UInt8):Er×List (List FileB):=
 if (lockEr l).code≠0 then (lockEr l,[])
 else if (readEr s).code≠0 then (readEr s,[])
 else if (splitGo (readT s) 0 l).1.code≠0 then ((splitGo (readT s) 0 l).1,[])
 else (⟨0,none⟩,(splitGo (readT s) 0 l).2)
structure LockOk (l:List WantB):Prop where
 few:l.length≤20
 each:∀w∈l,wantE w=0
 strict:l.Pairwise wLt
theorem wLt.irrefl (a:WantB):¬wLt a a:=List.lt_irrefl _
theorem wLt.trans {a b c:WantB} (h:wLt a b) (k:wLt b c):wLt a c:=List.lt_trans h k
theorem wLt.asymm {a b:WantB} (h:wLt a b):¬wLt b a:=fun k=>wLt.irrefl a (h.trans k)
theorem wLt.ne {a b:WantB} (h:wLt a b):a.name≠b.name:=fun e=>by unfold wLt at h;rw [e] at h;exact List.lt_irrefl _ h
theorem lockE_zero {p w:WantB}:lockE (some p) w=0↔wantE w=0∧wLt p w:=by
 unfold lockE;by_cases h:wantE w≠0
 ·rw [if_pos h];exact ⟨fun e=>absurd e h,fun e=>absurd e.1 h⟩
 ·rw [if_neg h];simp only
  cases hl:leqB (bl w.name) (bl p.name) with
  |true=>
   rw [if_pos rfl];refine ⟨fun e=>(by cases e),fun e=>?_⟩;have:=(leqB_false (bl w.name) (bl p.name)).2 e.2;rw [hl] at this;cases this
  |false=>
   rw [if_neg (by simp)];exact ⟨fun _=>⟨by simpa using h,(leqB_false _ _).1 hl⟩,fun _=>rfl⟩
theorem lockGo_some:∀(l:List WantB) (p:WantB) (i:Nat),lockGo (some p) i l=none↔(∀w∈l,wantE w=0)∧(p::l).Pairwise wLt
 | [],p,i=>by simp [lockGo]
 |w::l,p,i=>by
  unfold lockGo;by_cases h:lockE (some p) w≠0
  ·rw [if_pos h];refine ⟨fun e=>(by cases e),fun e=>?_⟩;exact absurd (lockE_zero.2 ⟨e.1 w (List.mem_cons_self ..),(List.pairwise_cons.1 e.2).1 w (List.mem_cons_self ..)⟩) h
  ·rw [if_neg h,lockGo_some l w (i+1)];obtain ⟨h1,h2⟩:=lockE_zero.1 (by simpa using h);constructor
   ·rintro ⟨a,b⟩;refine ⟨fun x hx=>?_,List.pairwise_cons.2 ⟨fun x hx=>?_,b⟩⟩
    ·rcases List.mem_cons.1 hx with rfl|hx
     ·exact h1
     ·exact a x hx
    ·rcases List.mem_cons.1 hx with rfl|hx
     ·exact h2
     ·exact h2.trans ((List.pairwise_cons.1 b).1 x hx)
   ·rintro ⟨a,b⟩;exact ⟨fun x hx=>a x (List.mem_cons_of_mem _ hx),(List.pairwise_cons.1 b).2⟩
theorem lockGo_none:∀(l:List WantB),lockGo none 0 l=none↔(∀w∈l,wantE w=0)∧l.Pairwise wLt
 | []=>by simp [lockGo]
 |w::l=>by
  unfold lockGo;have he:lockE none w=wantE w:=by
   unfold lockE;by_cases h:wantE w≠0
   ·rw [if_pos h]
   ·rw [if_neg h];simp only [ne_eq,Decidable.not_not] at h;exact h.symm
  rw [he];by_cases h:wantE w≠0
  ·rw [if_pos h];exact ⟨fun e=>(by cases e),fun e=>absurd (e.1 w (List.mem_cons_self ..)) h⟩
  ·rw [if_neg h,lockGo_some l w 1];constructor
   ·rintro ⟨a,b⟩;refine ⟨fun x hx=>?_,b⟩;rcases List.mem_cons.1 hx with rfl|hx
    ·simpa using h
    ·exact a x hx
   ·rintro ⟨a,b⟩;exact ⟨fun x hx=>a x (List.mem_cons_of_mem _ hx),b⟩
theorem lockE_nz:∀{l:List WantB} {prev:Option WantB} {i:Nat} {p:Nat×Nat},lockGo prev i l=some p→p.2≠0
 | [],_,_,_,h=>by cases h
 |w::l,prev,i,p,h=>by
  unfold lockGo at h;split at h
  ·rename_i hh;injection h with h;subst h;exact hh
  ·exact lockE_nz h
theorem lockOk_iff (l:List WantB):(lockEr l).code=0↔LockOk l:=by
 unfold lockEr;constructor
 ·intro h;split at h
  ·cases h
  ·rename_i h20
   cases hg:lockGo none 0 l with
   |none=>obtain ⟨a,b⟩:=(lockGo_none l).1 hg;exact ⟨by omega,a,b⟩
   |some p=>
    rw [hg] at h;exact absurd h (lockE_nz hg)
 ·rintro ⟨a,b,c⟩;rw [if_neg (by omega),(lockGo_none l).2 ⟨b,c⟩]
theorem LockOk.er {l:List WantB} (h:LockOk l):lockEr l=⟨0,none⟩:=by
 unfold lockEr;rw [if_neg (by have:=h.few;omega),(lockGo_none l).2 ⟨h.each,h.strict⟩]
theorem LockOk.sub {l m:List WantB} (h:LockOk m) (hs:l.Sublist m):LockOk l:=⟨Nat.le_trans hs.length_le h.few,fun w hw=>h.each w (hs.subset hw),h.strict.sublist hs⟩
theorem part_no {l:List UInt8} {c:UInt8} (h:partB l=true) (hc:okB c=false):c∉l:=fun hm=>by
 have h2:l.all okB=true:=by unfold partB at h;simp only [Bool.and_eq_true] at h;exact h.2
 have:=List.all_eq_true.1 h2 c hm;rw [hc] at this;cases this
theorem kinds_ok:∀k∈kinds,k.all okB=true:=by decide
theorem wkinds_ok:∀k∈wkinds,k.all okB=true:=by decide
theorem link_no {s:List UInt8} {c:UInt8} (h:linkE s=0) (hc:okB c=false) (h47:c≠47) (h58:c≠58):c∉s:=by
 unfold linkE at h;split at h
 ·rename_i h1;unfold lkE at h1;split at h1
  ·cases h1
  ·rename_i a1;split at h1
   ·cases h1
   ·rename_i a2;split at h1
    ·cases h1
    ·rename_i a3;simp only [Bool.or_eq_true,Bool.not_eq_true',not_or,Bool.not_eq_false] at a1;have e1:=cutB (l:=s) (sep:=sepL) a1.1;have e2:=cutB (l:=lkR s) (sep:=[47]) a1.2;have n1:c∉lkK s:=fun hm=>by
      have hk:lkK s∈kinds:=by simpa using a2
      have:=List.all_eq_true.1 (kinds_ok _ hk) c hm;rw [hc] at this;cases this
     have n2:c∉lkH s:=part_no (by simpa using a3) hc;have n3:c∉lkP s:=path_no h hc h47;have n4:c∉lkR s:=by
      rw [e2];intro hm;rcases List.mem_append.1 hm with hm|hm
      ·exact n2 hm
      ·rcases List.mem_append.1 hm with hm|hm
       ·exact h47 (List.mem_singleton.1 hm)
       ·exact n3 hm
     rw [e1];intro hm;rcases List.mem_append.1 hm with hm|hm
     ·exact n1 hm
     ·rcases List.mem_append.1 hm with hm|hm
      ·unfold sepL at hm;simp only [List.mem_cons,List.not_mem_nil,or_false] at hm;rcases hm with rfl|rfl|rfl
       ·exact h58 rfl
       ·exact h47 rfl
       ·exact h47 rfl
      ·exact n4 hm
 ·rename_i h1;exact absurd h h1
structure WantOk (w:WantB):Prop where
 name:partB (bl w.name)=true
 url:linkE (bl w.url)=0
 kind:bl w.kind∈wkinds
 strip:0≤w.strip∧w.strip≤6
 plain:bl w.kind=kPlain→w.strip=0
 sum:0≤w.sum∧w.sum<1000000007
theorem wantE_zero {w:WantB} (h:wantE w=0):WantOk w:=by
 unfold wantE at h;split at h
 ·cases h
 rename_i h1;split at h
 ·rename_i h2;exact absurd h h2
 rename_i h2;split at h
 ·cases h
 rename_i h3;split at h
 ·cases h
 rename_i h4;split at h
 ·cases h
 rename_i h5;split at h
 ·cases h
 rename_i h6;refine ⟨by simpa using h1,by simpa using h2,by simpa using h3,by omega,fun e=>?_,?_⟩
 ·exact Classical.byContradiction fun hn=>h5 ⟨e,hn⟩
 ·unfold rightB at h6;simp only [Bool.not_eq_false,Bool.and_eq_true,decide_eq_true_eq] at h6;exact h6
theorem want_pieces {w:WantB} (h:WantOk w) {c:UInt8} (hc:okB c=false) (h47:c≠47) (h58:c≠58):c∉bl w.name∧c∉bl w.url∧c∉bl w.kind:=by
 refine ⟨part_no h.name hc,link_no h.url hc h47 h58,fun hm=>?_⟩;have:=List.all_eq_true.1 (wkinds_ok _ h.kind) c hm;rw [hc] at this;cases this
theorem sum_dec {n:Nat} (h:n<1000000007):readS (115::Lib.decDigits n)=some n:=by
 unfold readS;rw [show (115::Lib.decDigits n).head? =some (115:UInt8) from rfl,if_pos rfl,List.tail_cons,numOf_dec n 10 (decDigits_len_le 9 n (by omega))];show (if n<1000000007 then some n else none)=some n;rw [if_pos h]
theorem readW_back {w:WantB} (h:wantE w=0):readW (wantTx w)=(0,w):=by
 have k:=wantE_zero h;obtain ⟨n1,n2,n3⟩:=want_pieces k (c:=32) (by decide) (by decide) (by decide);have d4:(32:UInt8)∉Lib.decDigits w.strip.toNat:=dig_no (.inl (by decide));have d5:(32:UInt8)∉(115::Lib.decDigits w.sum.toNat):=by
  intro hm;rcases List.mem_cons.1 hm with hm|hm
  ·cases hm
  ·exact dig_no (.inl (by decide)) hm
 have hc:cutL 32 (wantTx w)=[bl w.name,bl w.url,bl w.kind,Lib.decDigits w.strip.toNat,115::Lib.decDigits w.sum.toNat]:=by
  unfold wantTx;rw [if_neg (by rw [h];simp),cutL_app,cutL_app,cutL_app,cutL_app,cutL_no n1,cutL_no n2,cutL_no n3,cutL_no d4,cutL_no d5];rfl
 have hs:numOf (Lib.decDigits w.strip.toNat) 1=some w.strip.toNat:=numOf_dec _ _ (decDigits_len_le 0 _ (by have:=k.strip;omega));have hm:readS (115::Lib.decDigits w.sum.toNat)=some w.sum.toNat:=sum_dec (by have:=k.sum;omega);have hx:mkW (bl w.name) (bl w.url) (bl w.kind) w.strip.toNat w.sum.toNat=w:=by
  unfold mkW;rw [mk_bl,mk_bl,mk_bl,Int.toNat_of_nonneg k.strip.1,Int.toNat_of_nonneg k.sum.1]
 unfold readW;rw [hc];simp only [fiveW];rw [hs,hm];simp only [hx];rw [if_neg (by rw [h];simp)]
end Go.Proofs.YtaabgmbjmfjdjaaGreatDoor
