import Derived.Test.YtaabgmbjmfjdjaaGreatDoorJPlainly
import Derived.Test.YtaabgmbjmfjdjaaGreatDoorJErrors
import Derived.Test.YtaabgmbjmfjdjaaGreatDoorJParsedEtc
import Derived.Test.YtaabgmbjmfjdjaaGreatDoorJLockPlainsEtc
namespace Go.Proofs.YtaabgmbjmfjdjaaGreatDoor
open Go
def recL (s:List UInt8):List UInt8:=Lib.decDigits s.length++58::(s++[10,46])
def oneL (l:List UInt8):Option (List UInt8):=
 if (Lib.cut l [58]).2.2=true then
  match numOf (Lib.cut l [58]).1 9 with
  |none=>none
  |some n=>if n≤20000∧n+2≤(Lib.cut l [58]).2.1.length∧((Lib.cut l [58]).2.1.drop n).take 2=[10,46] then some ((Lib.cut l [58]).2.1.take n) else none
 else none
def readL:Nat→List UInt8→List (List UInt8)
 |0,_=>[]
 |f+1,l=>match oneL l with
  |none=>[]
  |some s=>s::readL f (l.drop (recL s).length)
def recsL (l:List (List UInt8)):List UInt8:=l.flatMap recL
theorem colon_dec (n:Nat):(58:UInt8)∉Lib.decDigits n:=fun h=>by
 have:=decDigits_isD n 58 h
 revert this;unfold isD;decide
theorem dec_nine (n:Nat) (h:n≤20000):(Lib.decDigits n).length≤9:=decDigits_len_le 8 n (by omega)
theorem recL_len (s:List UInt8):(recL s).length=(Lib.decDigits s.length).length+1+s.length+2:=by
 unfold recL;simp;omega
theorem recL_pos (s:List UInt8):3≤(recL s).length:=by rw [recL_len];omega
theorem oneL_rec (s r:List UInt8) (h:s.length≤20000):oneL (recL s++r)=some s:=by
 have e:recL s++r=Lib.decDigits s.length++58::(s++([10,46]++r)):=by unfold recL;simp
 unfold oneL;rw [e,cut_hit (colon_dec _)];simp only [if_true];rw [numOf_dec _ _ (dec_nine _ h)];simp only;rw [if_pos ⟨h,by simp,by rw [List.drop_left];rfl⟩,List.take_left]
theorem oneL_nil:oneL []=none:=by unfold oneL;rw [cut_miss (by simp)];simp
theorem oneL_short (s:List UInt8) (k:Nat) (hl:k<(recL s).length):oneL ((recL s).take k)=none:=by
 have hl':=hl;rw [recL_len] at hl';unfold recL;by_cases h:k≤(Lib.decDigits s.length).length
 ·rw [List.take_append_of_le_length h];have:(58:UInt8)∉(Lib.decDigits s.length).take k:=fun hm=>colon_dec s.length (List.mem_of_mem_take hm)
  unfold oneL;rw [cut_miss this];simp
 ·obtain ⟨j,rfl⟩:∃j,k=(Lib.decDigits s.length).length+(j+1):=⟨k- (Lib.decDigits s.length).length-1,by omega⟩;rw [List.take_length_add_append,List.take_succ_cons];unfold oneL;rw [cut_hit (colon_dec _)];simp only [if_true];split
  ·rfl
  ·rename_i n hn;have hs:=(numOf_some hn).1;have hn2:n=s.length:=by have:=congrArg (valD 0) hs;rw [valD_dec,valD_dec] at this;exact this.symm
   rw [if_neg];rintro ⟨_,h2,_⟩;rw [List.length_take] at h2;omega
theorem recsL_snoc (l:List (List UInt8)) (s:List UInt8):recsL (l++[s])=recsL l++recL s:=by simp [recsL]
theorem recsL_cons (l:List (List UInt8)) (s:List UInt8):recsL (s::l)=recL s++recsL l:=by simp [recsL]
theorem recsL_len (l:List (List UInt8)):l.length≤(recsL l).length:=by
 induction l with
 |nil=>simp
 |cons s l ih=>rw [recsL_cons,List.length_append,List.length_cons];have:=recL_pos s;omega
theorem readL_recs (l:List (List UInt8)) (p:List UInt8) (hl:∀s∈l,s.length≤20000) (hp:oneL p=none):∀f,l.length<f→readL f (recsL l++p)=l:=by
 induction l with
 |nil=>
  intro f hf
  cases f with
  |zero=>rfl
  |succ f=>show readL (f+1) p=[];unfold readL;rw [hp]
 |cons s l ih=>
  intro f hf
  cases f with
  |zero=>simp at hf
  |succ f=>
   rw [recsL_cons,List.append_assoc];unfold readL;rw [oneL_rec _ _ (hl s (by simp))];simp only [List.drop_left];rw [ih (fun x hx=>hl x (by simp [hx])) f (by simp at hf;omega)]
def tapeL (l:List UInt8):List (List UInt8):=readL (l.length+1) l
theorem tapeL_recs (l:List (List UInt8)) (p:List UInt8) (hl:∀s∈l,s.length≤20000) (hp:oneL p=none):tapeL (recsL l++p)=l:=
 readL_recs l p hl hp _ (by rw [List.length_append];have:=recsL_len l;omega)
theorem cutE {l sep:List UInt8} (h:(Lib.cut l sep).2.2=true):l=(Lib.cut l sep).1++(sep++(Lib.cut l sep).2.1):=by
 rcases Lib.index_spec l sep with ⟨h1,_⟩|⟨i,h1,_,h3,_⟩
 ·unfold Lib.cut at h;rw [h1] at h;simp at h
 ·obtain ⟨r,hr⟩:=List.isPrefixOf_iff_prefix.1 h3;have e:Lib.cut l sep=(l.take i,l.drop (i+sep.length),true):=by
   unfold Lib.cut;rw [h1,if_pos (by omega)];simp
  rw [e];show l=l.take i++(sep++l.drop (i+sep.length));have:l.drop (i+sep.length)=r:=by rw [←List.drop_drop,←hr,List.drop_left]
  rw [this,hr,List.take_append_drop]
theorem oneL_inv {l x:List UInt8} (h:oneL l=some x):x.length≤20000∧∃r,l=recL x++r:=by
 unfold oneL at h;split at h
 ·rename_i hc;have he:=cutE hc;split at h
  ·cases h
  ·rename_i n hn;split at h
   ·rename_i hx;injection h with h
    obtain ⟨h1,h2,h3⟩:=hx;have ha:=(numOf_some hn).1;have hxl:x.length=n:=by rw [←h,List.length_take];omega
    refine ⟨by omega,(Lib.cut l [58]).2.1.drop (n+2),?_⟩;have hb:(Lib.cut l [58]).2.1=x++([10,46]++(Lib.cut l [58]).2.1.drop (n+2)):=by
     have e1:=(List.take_append_drop n (Lib.cut l [58]).2.1).symm;have e2:=(List.take_append_drop 2 ((Lib.cut l [58]).2.1.drop n)).symm;rw [h3,List.drop_drop] at e2;rw [h,e2] at e1;exact e1
    unfold recL;rw [hxl,←ha];refine he.trans ?_
    conv=>lhs;rw [hb]
    simp
   ·cases h
 ·cases h
theorem oneL_ne {l x:List UInt8} (h:oneL l=some x):(l.drop (recL x).length).length<l.length∧(recL x).length≤l.length:=by
 obtain ⟨_,r,rfl⟩:=oneL_inv h;have:=recL_pos x;rw [List.drop_left,List.length_append];omega
theorem readL_fuel:∀(m:Nat) (l:List UInt8),l.length≤m→∀f,l.length<f→readL f l=readL (l.length+1) l
 |m,l,hm,f,hf=>by
  cases f with
  |zero=>omega
  |succ f=>
   unfold readL
   cases h:oneL l with
   |none=>rfl
   |some x=>
    simp only;have:=(oneL_ne h).1
    match m,hm with
    |0,hm=>omega
    |m+1,hm=>
     rw [readL_fuel m _ (by omega) f (by omega),readL_fuel m _ (by omega) l.length (by omega)]
theorem tapeL_none {l:List UInt8} (h:oneL l=none):tapeL l=[]:=by unfold tapeL readL;rw [h]
theorem tapeL_some {l x:List UInt8} (h:oneL l=some x):tapeL l=x::tapeL (l.drop (recL x).length):=by
 have:=(oneL_ne h).1;unfold tapeL
 conv=>lhs;unfold readL
 rw [h];simp only;rw [readL_fuel _ _ (Nat.le_refl _) l.length (by omega)]
theorem readL_prefix:∀(f:Nat) (l:List UInt8),∃r,l=recsL (readL f l)++r
 |0,l=>⟨l,rfl⟩
 |f+1,l=>by
  unfold readL
  cases h:oneL l with
  |none=>exact ⟨l,rfl⟩
  |some x=>
   obtain ⟨_,r,rfl⟩:=oneL_inv h;simp only;rw [List.drop_left];obtain ⟨r2,hr⟩:=readL_prefix f r;exact ⟨r2,by rw [recsL_cons,List.append_assoc,←hr]⟩
theorem tapeL_prefix (l:List UInt8):l.take (recsL (tapeL l)).length=recsL (tapeL l):=by
 obtain ⟨r,hr⟩:=readL_prefix (l.length+1) l;have:l.take (recsL (tapeL l)).length=(recsL (tapeL l)++r).take (recsL (tapeL l)).length:=by congr 1
 rw [this,List.take_left]
def WroteL (bs:List UInt8) (off:Bool) (c:Int) (r:List UInt8):List UInt8×Bool×Int×Bool:=
 if off=true then (bs,true,c,false)
 else if 0≤c∧c<r.length then (bs++r.take c.toNat,true,c,false)
 else (bs++r,false,if 0≤c then c-r.length else c,true)
abbrev RuleL:=List UInt8×List (List UInt8)
def firstE:List (List UInt8)→Nat
 | []=>0
 |t::r=>if beginE t=0 then firstE r else beginE t
def oneE (r:RuleL):Nat:=if beginE r.1=0 then (if 8<r.2.length then 8 else firstE r.2) else beginE r.1
def badAt:Nat→List RuleL→Option (Nat×Nat)
 |_,[]=>none
 |i,r::l=>if oneE r=0 then badAt (i+1) l else some (i,oneE r)
def takes (s:List UInt8) (acc:Option RuleL) (r:RuleL):Bool:=Lib.hasPrefix s r.1&&(match acc with|none=>true|some q=>decide (q.1.length<r.1.length))
def pickR (s:List UInt8):Option RuleL→List RuleL→Option RuleL
 |acc,[]=>acc
 |acc,r::l=>pickR s (if takes s acc r then some r else acc) l
def waysGo (f s:List UInt8):List (List UInt8)→List (List UInt8)→List (List UInt8)
 |out,[]=>out
 |out,t::r=>if swapE f t s=0∧¬(swapT f t s)∈out then waysGo f s (out++[swapT f t s]) r else waysGo f s out r
def waysR (s:List UInt8):Option RuleL→List (List UInt8)
 |none=>[]
 |some r=>waysGo r.1 s [] r.2
def waysOut (l:List RuleL) (s:List UInt8):List (List UInt8):=
 if s∈waysR s (pickR s none l) then waysR s (pickR s none l) else waysR s (pickR s none l)++[s]
theorem firstE_le:∀l,firstE l≤13
 | []=>by decide
 |t::r=>by rw [firstE];split;exact firstE_le r;exact beginE_le t
theorem oneE_le (r:RuleL):oneE r≤13:=by
 unfold oneE;split
 ·split
  ·decide
  ·exact firstE_le _
 ·exact beginE_le _
theorem badAt_le:∀(l:List RuleL) (i:Nat) {p:Nat×Nat},badAt i l=some p→p.2≤13∧p.2≠0
 | [],_,_,h=>by cases h
 |r::l,i,p,h=>by
  rw [badAt] at h;split at h
  ·exact badAt_le l _ h
  ·rename_i h0;obtain rfl:=Option.some.inj h;exact ⟨oneE_le r,h0⟩
theorem badAt_none:∀(l:List RuleL) (i:Nat),badAt i l=none↔∀r∈l,oneE r=0
 | [],_=>by simp [badAt]
 |r::l,i=>by
  rw [badAt];split
  ·rename_i h;rw [badAt_none l];simp [h]
  ·rename_i h;simp [h]
theorem firstE_zero:∀{l:List (List UInt8)},firstE l=0→∀t∈l,beginE t=0
 | [],_,_,h=>by cases h
 |t::r,h0,x,hx=>by
  rw [firstE] at h0;split at h0
  ·rename_i h1;rcases List.mem_cons.1 hx with rfl|hx
   ·exact h1
   ·exact firstE_zero h0 x hx
  ·rename_i h1;exact absurd h0 h1
theorem waysGo_ok {f s:List UInt8}:∀(ts out:List (List UInt8)),(∀x∈out,linkE x=0)→out.Nodup→(∀x∈waysGo f s out ts,linkE x=0)∧(waysGo f s out ts).Nodup
 | [],out,h,hn=>⟨h,hn⟩
 |t::r,out,h,hn=>by
  rw [waysGo];split
  ·rename_i c;refine waysGo_ok r _ ?_ ?_
   ·intro x hx;rcases List.mem_append.1 hx with hx|hx
    ·exact h x hx
    ·obtain rfl:=List.mem_singleton.1 hx;exact (swap_back c.1).2.2.1
   ·rw [List.nodup_append];refine ⟨hn,by simp,?_⟩;intro a ha b hb e;obtain rfl:=List.mem_singleton.1 hb;subst e;exact c.2 ha
  ·exact waysGo_ok r out h hn
theorem waysOut_ok {l:List RuleL} {s:List UInt8} (hs:linkE s=0):(∀x∈waysOut l s,linkE x=0)∧(waysOut l s).Nodup∧s∈waysOut l s:=by
 have key:(∀x∈waysR s (pickR s none l),linkE x=0)∧(waysR s (pickR s none l)).Nodup:=by
  cases pickR s none l with
  |none=>exact ⟨(fun x hx=>by cases hx),List.nodup_nil⟩
  |some r=>exact waysGo_ok r.2 [] (fun x hx=>by cases hx) List.nodup_nil
 unfold waysOut;split
 ·rename_i h;exact ⟨key.1,key.2,h⟩
 ·rename_i h;refine ⟨?_,?_,by simp⟩
  ·intro x hx;rcases List.mem_append.1 hx with hx|hx
   ·exact key.1 x hx
   ·obtain rfl:=List.mem_singleton.1 hx;exact hs
  ·rw [List.nodup_append];refine ⟨key.2,by simp,?_⟩;intro a ha b hb e;obtain rfl:=List.mem_singleton.1 hb;subst e;exact h ha
theorem takes_no {s:List UInt8} {acc:Option RuleL} {r:RuleL} (h:Lib.hasPrefix s r.1=false):takes s acc r=false:=by unfold takes;rw [h];rfl
def rulesEr (l:List RuleL):Er:=if 10<l.length then ⟨8,none⟩ else match badAt 0 l with
 |none=>⟨0,none⟩
 |some p=>⟨p.2,some (p.1:Int)⟩
theorem rulesEr_zero {l:List RuleL} (h:(rulesEr l).code=0):rulesEr l=⟨0,none⟩∧l.length≤10∧∀r∈l,oneE r=0:=by
 unfold rulesEr at h⊢;split at h
 ·cases h
 ·rename_i h10;rw [if_neg h10]
  cases hb:badAt 0 l with
  |none=>exact ⟨rfl,by omega,(badAt_none l 0).1 hb⟩
  |some p=>
   rw [hb] at h;exact absurd h (badAt_le l 0 hb).2
structure TapeS where
 bytes:List UInt8
 off:Bool
 cut:Int
def appT (t:TapeS) (s:List UInt8):Nat×TapeS:=
 if 20000<s.length then (2,t)
 else if 1048576<t.bytes.length+(recL s).length then (8,t)
 else (if (WroteL t.bytes t.off t.cut (recL s)).2.2.2=true then 0 else 13,⟨(WroteL t.bytes t.off t.cut (recL s)).1,(WroteL t.bytes t.off t.cut (recL s)).2.1,(WroteL t.bytes t.off t.cut (recL s)).2.2.1⟩)
def cutT (t:TapeS) (n:Int):Nat×TapeS:=if n<0 then (2,t) else if t.off=true then (13,t) else (0,{t with cut:=n})
def recT (t:TapeS):TapeS:=⟨t.bytes.take (recsL (tapeL t.bytes)).length,false,-1⟩
structure ShopS where
 rules:List RuleL
 lock:List WantB
 held:HeldB
def emptyS:ShopS:=⟨[],[],newH 40⟩
def wRule:List UInt8:=[114,117,108,101]
def wWant:List UInt8:=[119,97,110,116]
def wUnwant:List UInt8:=[117,110,119,97,110,116]
def wHold:List UInt8:=[104,111,108,100]
def wDrop:List UInt8:=[100,114,111,112]
def recW (k rest:List UInt8):List UInt8:=k++32::rest
def ruleTx (r:RuleL):List UInt8:=r.1++r.2.flatMap (32::·)
def ruleS (S:ShopS) (t:TapeS) (r:RuleL):Nat×ShopS×TapeS:=
 if (rulesEr (S.rules++[r])).code≠0 then ((rulesEr (S.rules++[r])).code,S,t)
 else if (appT t (recW wRule (ruleTx r))).1≠0 then ((appT t (recW wRule (ruleTx r))).1,S,(appT t (recW wRule (ruleTx r))).2)
 else (0,{S with rules:=S.rules++[r]},(appT t (recW wRule (ruleTx r))).2)
def wantS (S:ShopS) (t:TapeS) (w:WantB):Er×ShopS×TapeS:=
 if (setLk S.lock w).1.code≠0 then ((setLk S.lock w).1,S,t)
 else if (appT t (recW wWant (wantTx w))).1≠0 then (⟨(appT t (recW wWant (wantTx w))).1,none⟩,S,(appT t (recW wWant (wantTx w))).2)
 else (⟨0,none⟩,{S with lock:=(setLk S.lock w).2},(appT t (recW wWant (wantTx w))).2)
def unwantS (S:ShopS) (t:TapeS) (n:ByteArray):Er×ShopS×TapeS:=
 if (dropLk S.lock n).1.code≠0 then ((dropLk S.lock n).1,S,t)
 else if (appT t (recW wUnwant (bl n))).1≠0 then (⟨(appT t (recW wUnwant (bl n))).1,none⟩,S,(appT t (recW wUnwant (bl n))).2)
 else (⟨0,none⟩,{S with lock:=(dropLk S.lock n).2},(appT t (recW wUnwant (bl n))).2)
def holdS (S:ShopS) (t:TapeS) (l:List FileB):Nat×ShopS×TapeS:=
 if (ixOf (treeSum l) S.held.sums).isSome=true then (0,S,t)
 else if (appT t (recW wHold (packL l))).1≠0 then ((appT t (recW wHold (packL l))).1,S,(appT t (recW wHold (packL l))).2)
 else (0,{S with held:=(putH S.held l).2.2},(appT t (recW wHold (packL l))).2)
def dropS (S:ShopS) (t:TapeS) (n:Int):Nat×ShopS×TapeS:=
 if (ixOf n S.held.sums).isSome=false then (6,S,t)
 else if (appT t (recW wDrop (Lib.decDigits n.toNat))).1≠0 then ((appT t (recW wDrop (Lib.decDigits n.toNat))).1,S,(appT t (recW wDrop (Lib.decDigits n.toNat))).2)
 else (0,{S with held:=(dropH S.held n).2},(appT t (recW wDrop (Lib.decDigits n.toNat))).2)
def holdsS:ShopS→TapeS→List (List FileB)→Nat×ShopS×TapeS
 |S,t,[]=>(0,S,t)
 |S,t,l::ls=>if (holdS S t l).1≠0 then holdS S t l else holdsS (holdS S t l).2.1 (holdS S t l).2.2 ls
def loadS (S:ShopS) (t:TapeS) (s:List UInt8):Er×ShopS×TapeS:=
 if (splitLk S.lock s).1.code≠0 then ((splitLk S.lock s).1,S,t)
 else (⟨(holdsS S t (splitLk S.lock s).2).1,none⟩,(holdsS S t (splitLk S.lock s).2).2)
def againS (S:ShopS) (r:List UInt8):Nat×ShopS:=
 if (Lib.cut r [32]).2.2=false then (1,S)
 else if (Lib.cut r [32]).1=wRule then
  (if (rulesEr (S.rules++[((cutL 32 (Lib.cut r [32]).2.1).headD [],(cutL 32 (Lib.cut r [32]).2.1).tail)])).code≠0 then ((rulesEr (S.rules++[((cutL 32 (Lib.cut r [32]).2.1).headD [],(cutL 32 (Lib.cut r [32]).2.1).tail)])).code,S)
   else (0,{S with rules:=S.rules++[((cutL 32 (Lib.cut r [32]).2.1).headD [],(cutL 32 (Lib.cut r [32]).2.1).tail)]}))
 else if (Lib.cut r [32]).1=wWant then
  (if (readW (Lib.cut r [32]).2.1).1≠0 then (1,S) else ((setLk S.lock (readW (Lib.cut r [32]).2.1).2).1.code,{S with lock:=(setLk S.lock (readW (Lib.cut r [32]).2.1).2).2}))
 else if (Lib.cut r [32]).1=wUnwant then
  ((dropLk S.lock ⟨(Lib.cut r [32]).2.1.toArray⟩).1.code,{S with lock:=(dropLk S.lock ⟨(Lib.cut r [32]).2.1.toArray⟩).2})
 else if (Lib.cut r [32]).1=wHold then
  (if (readEr (Lib.cut r [32]).2.1).code≠0 then (1,S) else ((putH S.held (readT (Lib.cut r [32]).2.1)).1.code,{S with held:=(putH S.held (readT (Lib.cut r [32]).2.1)).2.2}))
 else if (Lib.cut r [32]).1=wDrop then
  (match numOf (Lib.cut r [32]).2.1 10 with
   |none=>(1,S)
   |some n=>((dropH S.held n).1,{S with held:=(dropH S.held n).2}))
 else (1,S)
def openGo:Nat→ShopS→List (List UInt8)→Er×ShopS
 |_,S,[]=>(⟨0,none⟩,S)
 |i,S,r::l=>if (againS S r).1≠0 then (⟨(againS S r).1,some (i:Int)⟩,S) else openGo (i+1) (againS S r).2 l
def openS (b:List UInt8):Er×ShopS:=openGo 0 emptyS (tapeL b)
theorem begin_no {s:List UInt8} {c:UInt8} (h:beginE s=0) (hc:okB c=false) (h47:c≠47) (h58:c≠58):c∉s:=by
 unfold beginE at h;split at h
 ·rename_i h1;have n3:c∉lkP s:=by
   have n0:c∉Lib.trimSuffix (lkP s) [47]:=by
    split at h
    ·rename_i h2;rw [h2];simp
    ·exact path_no h hc h47
   rw [trim_last] at n0;split at n0
   ·rename_i hl;obtain ⟨q,hq⟩:=List.getLast?_eq_some_iff.1 hl;rw [hq,List.dropLast_concat] at n0;rw [hq];intro hm;rcases List.mem_append.1 hm with hm|hm
    ·exact n0 hm
    ·exact h47 (List.mem_singleton.1 hm)
   ·exact n0
  unfold lkE at h1;split at h1
  ·cases h1
  ·rename_i a1;split at h1
   ·cases h1
   ·rename_i a2;split at h1
    ·cases h1
    ·rename_i a3;simp only [Bool.or_eq_true,Bool.not_eq_true',not_or,Bool.not_eq_false] at a1;have e1:=cutB (l:=s) (sep:=sepL) a1.1;have e2:=cutB (l:=lkR s) (sep:=[47]) a1.2;have n1:c∉lkK s:=fun hm=>by
      have hk:lkK s∈kinds:=by simpa using a2
      have:=List.all_eq_true.1 (kinds_ok _ hk) c hm;rw [hc] at this;cases this
     have n2:c∉lkH s:=part_no (by simpa using a3) hc;have n4:c∉lkR s:=by
      rw [e2];intro hm;rcases List.mem_append.1 hm with hm|hm
      ·exact n2 hm
      ·rcases List.mem_append.1 hm with hm|hm
       ·exact h47 (List.mem_singleton.1 hm)
       ·exact n3 hm
     rw [e1];intro hm;rcases List.mem_append.1 hm with hm|hm
     ·exact n1 hm
     ·rcases List.mem_append.1 hm with hm|hm
      ·unfold sepL at hm;simp only [List.mem_cons,List.not_mem_nil,or_false] at hm;rcases hm with rfl|rfl|rfl
       ·exact h58 rfl
       ·exact h47 rfl
       ·exact h47 rfl
      ·exact n4 hm
 ·rename_i h1;exact absurd h h1
theorem rule_no {r:RuleL} (h:oneE r=0):(32:UInt8)∉r.1∧∀t∈r.2,(32:UInt8)∉t:=by
 unfold oneE at h;split at h
 ·rename_i h1;refine ⟨begin_no h1 (by decide) (by decide) (by decide),fun t ht=>?_⟩;split at h
  ·cases h
  ·exact begin_no (firstE_zero h t ht) (by decide) (by decide) (by decide)
 ·rename_i h1;exact absurd h h1
theorem cut_rule:∀(a:List UInt8) (ts:List (List UInt8)),(32:UInt8)∉a→(∀t∈ts,(32:UInt8)∉t)→cutL 32 (a++ts.flatMap (32::·))=a::ts
 |a,[],h,_=>by rw [List.flatMap_nil,List.append_nil,cutL_no h]
 |a,t::ts,h,ht=>by
  rw [List.flatMap_cons,List.cons_append,cutL_app,cutL_no h,cut_rule t ts (ht t (by simp)) fun x hx=>ht x (by simp [hx])];rfl
theorem cut_rec {k:List UInt8} (rest:List UInt8) (h:(32:UInt8)∉k):Lib.cut (recW k rest) [32]=(k,rest,true):=cut_hit h
theorem words_apart:wWant≠wRule∧wUnwant≠wRule∧wUnwant≠wWant∧wHold≠wRule∧wHold≠wWant∧wHold≠wUnwant∧wDrop≠wRule∧wDrop≠wWant∧wDrop≠wUnwant∧wDrop≠wHold:=by decide
theorem again_rule (S:ShopS) {r:RuleL} (h:(rulesEr (S.rules++[r])).code=0):againS S (recW wRule (ruleTx r))=(0,{S with rules:=S.rules++[r]}):=by
 obtain ⟨_,_,hr⟩:=rulesEr_zero h;obtain ⟨n1,n2⟩:=rule_no (hr r (by simp));unfold againS;rw [cut_rec _ (by decide)];simp only;rw [if_neg (by simp),if_pos trivial];have hc:cutL 32 (ruleTx r)=r.1::r.2:=cut_rule _ _ n1 n2;rw [hc];show (if (rulesEr (S.rules++[(r.1,r.2)])).code≠0 then _ else _)=_;rw [if_neg (by rw [h];simp)];rfl
theorem again_want (S:ShopS) {w:WantB} (h:(setLk S.lock w).1.code=0):againS S (recW wWant (wantTx w))=(0,{S with lock:=(setLk S.lock w).2}):=by
 have hw:wantE w=0:=by
  unfold setLk at h;split at h
  ·rename_i h1;exact absurd h h1
  ·split at h
   ·rename_i h1;exact absurd h h1
   ·rename_i h1;simpa using h1
 unfold againS;rw [cut_rec _ (by decide)];simp only;rw [if_neg (by simp),if_neg words_apart.1,if_pos trivial,readW_back hw,if_neg (by simp),h]
theorem again_unwant (S:ShopS) {n:ByteArray} (h:(dropLk S.lock n).1.code=0):againS S (recW wUnwant (bl n))=(0,{S with lock:=(dropLk S.lock n).2}):=by
 unfold againS;rw [cut_rec _ (by decide)];simp only;have e:(⟨(bl n).toArray⟩:ByteArray)=n:=by cases n;rfl
 rw [if_neg (by simp),if_neg words_apart.2.1,if_neg words_apart.2.2.1,if_pos trivial,e,h]
theorem again_hold (S:ShopS) {l:List FileB} (h:(treeEr l).code=0) (hm:S.held.most≠0):againS S (recW wHold (packL l))=(0,{S with held:=(putH S.held l).2.2}):=by
 obtain ⟨b1,b2⟩:=read_pack h;have hp:(putH S.held l).1.code=0:=by
  unfold putH;rw [if_neg (by rw [h];simp),if_neg hm];split<;>rfl
 unfold againS;rw [cut_rec _ (by decide)];simp only;rw [if_neg (by simp),if_neg words_apart.2.2.2.1,if_neg words_apart.2.2.2.2.1,if_neg words_apart.2.2.2.2.2.1,if_pos trivial,b1,b2,if_neg (by simp),hp]
theorem again_drop (S:ShopS) {n:Int} (h:(ixOf n S.held.sums).isSome=true) (h0:0≤n) (h1:n<1000000007):againS S (recW wDrop (Lib.decDigits n.toNat))=(0,{S with held:=(dropH S.held n).2}):=by
 have hd:(dropH S.held n).1=0:=by
  unfold dropH
  cases hx:ixOf n S.held.sums with
  |none=>rw [hx] at h;cases h
  |some k=>rfl
 have hn:((n.toNat:Nat):Int)=n:=by omega
 unfold againS;rw [cut_rec _ (by decide)];simp only;rw [if_neg (by simp),if_neg words_apart.2.2.2.2.2.2.1,if_neg words_apart.2.2.2.2.2.2.2.1,if_neg words_apart.2.2.2.2.2.2.2.2.1,if_neg words_apart.2.2.2.2.2.2.2.2.2,if_pos trivial,numOf_dec _ 10 (decDigits_len_le 9 _ (by omega))];simp only;rw [hn,hd]
structure TapeHas (t:TapeS) (recs:List (List UInt8)):Prop where
 small:∀s∈recs,s.length≤20000
 fits:t.bytes.length≤1048576
 cut: -1≤t.cut∧t.cut≤9223372036854775807
 is:(t.off=false∧t.bytes=recsL recs)∨(t.off=true∧∃p,t.bytes=recsL recs++p∧oneL p=none)
theorem TapeHas.reads {t:TapeS} {recs:List (List UInt8)} (h:TapeHas t recs):tapeL t.bytes=recs:=by
 rcases h.is with ⟨_,e⟩|⟨_,p,e,hp⟩
 ·rw [e];have:=tapeL_recs recs [] h.small oneL_nil;rwa [List.append_nil] at this
 ·rw [e];exact tapeL_recs recs p h.small hp
theorem appT_has {t:TapeS} {recs:List (List UInt8)} (h:TapeHas t recs) (s:List UInt8):TapeHas (appT t s).2 (if (appT t s).1=0 then recs++[s] else recs):=by
 unfold appT;split
 ·rw [if_neg (by simp)];exact h
 rename_i h1;split
 ·rw [if_neg (by simp)];exact h
 rename_i h2;have hsm:∀x∈recs++[s],x.length≤20000:=fun x hx=>by
  rcases List.mem_append.1 hx with hx|hx
  ·exact h.small x hx
  ·obtain rfl:=List.mem_singleton.1 hx;omega
 rcases h.is with ⟨e0,e⟩|⟨e0,p,e,hp⟩
 ·by_cases hk:0≤t.cut∧t.cut<((recL s).length:Int)
  ·have hw:WroteL t.bytes t.off t.cut (recL s)=(t.bytes++(recL s).take t.cut.toNat,true,t.cut,false):=by
    unfold WroteL;rw [if_neg (by rw [e0];simp),if_pos hk]
   rw [hw];simp only [Bool.false_eq_true,if_false];rw [if_neg (by simp)];refine ⟨h.small,?_,h.cut,.inr ⟨rfl,_,by rw [e],oneL_short s _ (by omega)⟩⟩;show (t.bytes++_).length≤_;rw [List.length_append,List.length_take];omega
  ·have hw:WroteL t.bytes t.off t.cut (recL s)=(t.bytes++recL s,false,if 0≤t.cut then t.cut- (recL s).length else t.cut,true):=by
    unfold WroteL;rw [if_neg (by rw [e0];simp),if_neg hk]
   rw [hw];simp only [if_true];refine ⟨hsm,?_,?_,.inl ⟨rfl,by show t.bytes++recL s=_;rw [e,recsL_snoc]⟩⟩
   ·show (t.bytes++_).length≤_;rw [List.length_append];omega
   ·have:=h.cut;show-1≤(if 0≤t.cut then t.cut- (recL s).length else t.cut)∧(if 0≤t.cut then t.cut- (recL s).length else t.cut)≤_;split<;>omega
 ·have hw:WroteL t.bytes t.off t.cut (recL s)=(t.bytes,true,t.cut,false):=by
   unfold WroteL;rw [if_pos e0]
  rw [hw];simp only [Bool.false_eq_true,if_false];rw [if_neg (by simp)];exact ⟨h.small,h.fits,h.cut,.inr ⟨rfl,p,e,hp⟩⟩
theorem cutT_has {t:TapeS} {recs:List (List UInt8)} (h:TapeHas t recs) {n:Int} (hn:n≤9223372036854775807):TapeHas (cutT t n).2 recs:=by
 unfold cutT;split
 ·exact h
 ·split
  ·exact h
  ·exact ⟨h.small,h.fits,⟨by show-1≤n;omega,hn⟩,h.is⟩
theorem recT_has {t:TapeS} {recs:List (List UInt8)} (h:TapeHas t recs):TapeHas (recT t) recs:=by
 have hr:=h.reads;have hp:=tapeL_prefix t.bytes;rw [hr] at hp;unfold recT;rw [hr,hp];refine ⟨h.small,?_,by show (-1:Int)≤-1∧(-1:Int)≤_;omega,.inl ⟨rfl,rfl⟩⟩;show (recsL recs).length≤_;have h1:=h.fits;have:(recsL recs).length≤t.bytes.length:=by
  have:=congrArg List.length hp;rw [List.length_take] at this;omega
 omega
structure ShopOk (S:ShopS) (recs:List (List UInt8)):Prop where
 rules:(rulesEr S.rules).code=0
 lock:LockOk S.lock
 held:HeldOk S.held
 most:S.held.most=40
 made:openGo 0 emptyS recs=(⟨0,none⟩,S)
theorem openGo_snoc:∀(l:List (List UInt8)) (i:Nat) (S T U:ShopS) (r:List UInt8),openGo i S l=(⟨0,none⟩,T)→againS T r=(0,U)→openGo i S (l++[r])=(⟨0,none⟩,U)
 | [],i,S,T,U,r,h,h2=>by
  obtain rfl:S=T:=(Prod.mk.injEq .. |>.mp h).2;show openGo i S [r]=_;unfold openGo;rw [h2,if_neg (by simp)];rfl
 |x::l,i,S,T,U,r,h,h2=>by
  rw [List.cons_append];unfold openGo at h⊢;by_cases hx:(againS S x).1≠0
  ·rw [if_pos hx] at h;have h3:(⟨(againS S x).1,some (i:Int)⟩:Er)=⟨0,none⟩:=(Prod.mk.injEq .. |>.mp h).1;injection h3 with _ h4
   cases h4
  ·rw [if_neg hx] at h⊢;exact openGo_snoc l (i+1) _ T U r h h2
theorem ShopOk.step {S T:ShopS} {recs:List (List UInt8)} {r:List UInt8} (h:ShopOk S recs) (h2:againS S r=(0,T)) (hr:(rulesEr T.rules).code=0) (hl:LockOk T.lock) (hh:HeldOk T.held) (hm:T.held.most=40):ShopOk T (recs++[r]):=
 ⟨hr,hl,hh,hm,openGo_snoc recs 0 emptyS S T r h.made h2⟩
theorem emptyS_ok:ShopOk emptyS []:=⟨rfl,lockOk_nil,newH_ok 40,rfl,rfl⟩
theorem dropH_most (h:HeldB) (n:Int):(dropH h n).2.most=h.most:=by unfold dropH;split<;>rfl
structure Shopped (S:ShopS) (t:TapeS) (recs:List (List UInt8)):Prop where
 shop:ShopOk S recs
 tape:TapeHas t recs
theorem Shopped.deed {S T:ShopS} {t:TapeS} {recs:List (List UInt8)} {r:List UInt8} (h:Shopped S t recs) (h2:againS S r=(0,T)) (hr:(rulesEr T.rules).code=0) (hl:LockOk T.lock) (hh:HeldOk T.held) (hm:T.held.most=40):
  ∃recs',Shopped (if (appT t r).1≠0 then S else T) (appT t r).2 recs':=by
 have ha:=appT_has h.tape r;by_cases hc:(appT t r).1≠0
 ·rw [if_pos hc];rw [if_neg hc] at ha;exact ⟨recs,h.shop,ha⟩
 ·rw [if_neg hc];rw [if_pos (by simpa using hc)] at ha;exact ⟨recs++[r],h.shop.step h2 hr hl hh hm,ha⟩
theorem ruleS_ok {S:ShopS} {t:TapeS} {recs:List (List UInt8)} (h:Shopped S t recs) (r:RuleL):∃recs',Shopped (ruleS S t r).2.1 (ruleS S t r).2.2 recs':=by
 unfold ruleS;split
 ·exact ⟨recs,h⟩
 ·rename_i h1;have h1:(rulesEr (S.rules++[r])).code=0:=by simpa using h1
  obtain ⟨recs',hs⟩:=h.deed (again_rule S h1) h1 h.shop.lock h.shop.held h.shop.most;refine ⟨recs',?_⟩;split
  ·rename_i h2;rw [if_pos h2] at hs;exact hs
  ·rename_i h2;rw [if_neg h2] at hs;exact hs
theorem wantS_ok {S:ShopS} {t:TapeS} {recs:List (List UInt8)} (h:Shopped S t recs) (w:WantB):∃recs',Shopped (wantS S t w).2.1 (wantS S t w).2.2 recs':=by
 unfold wantS;split
 ·exact ⟨recs,h⟩
 ·rename_i h1;have h1:(setLk S.lock w).1.code=0:=by simpa using h1
  obtain ⟨recs',hs⟩:=h.deed (again_want S h1) h.shop.rules (setLk_right h.shop.lock h1) h.shop.held h.shop.most;refine ⟨recs',?_⟩;split
  ·rename_i h2;rw [if_pos h2] at hs;exact hs
  ·rename_i h2;rw [if_neg h2] at hs;exact hs
theorem unwantS_ok {S:ShopS} {t:TapeS} {recs:List (List UInt8)} (h:Shopped S t recs) (n:ByteArray):∃recs',Shopped (unwantS S t n).2.1 (unwantS S t n).2.2 recs':=by
 unfold unwantS;split
 ·exact ⟨recs,h⟩
 ·rename_i h1;have h1:(dropLk S.lock n).1.code=0:=by simpa using h1
  obtain ⟨recs',hs⟩:=h.deed (again_unwant S h1) h.shop.rules (dropLk_right h.shop.lock h1) h.shop.held h.shop.most;refine ⟨recs',?_⟩;split
  ·rename_i h2;rw [if_pos h2] at hs;exact hs
  ·rename_i h2;rw [if_neg h2] at hs;exact hs
theorem holdS_ok {S:ShopS} {t:TapeS} {recs:List (List UInt8)} (h:Shopped S t recs) {l:List FileB} (hl:(treeEr l).code=0):∃recs',Shopped (holdS S t l).2.1 (holdS S t l).2.2 recs':=by
 unfold holdS;split
 ·exact ⟨recs,h⟩
 ·obtain ⟨recs',hs⟩:=h.deed (again_hold S hl (by rw [h.shop.most];simp)) h.shop.rules h.shop.lock (putH_ok l h.shop.held) (by show (putH S.held l).2.2.most=40;rw [putH_most];exact h.shop.most);refine ⟨recs',?_⟩;split
  ·rename_i h2;rw [if_pos h2] at hs;exact hs
  ·rename_i h2;rw [if_neg h2] at hs;exact hs
theorem sums_range {h:HeldB} (k:HeldOk h) {n:Int} (hn:(ixOf n h.sums).isSome=true):0≤n∧n<1000000007:=by
 obtain ⟨p,hp,rfl⟩:=List.mem_map.1 (ixOf_isSome.1 hn);rw [(k.right p hp).2];unfold treeSum;have h2:sumL (packT p.2)<1000000007:=sumL_lt (packT p.2);omega
theorem dropS_ok {S:ShopS} {t:TapeS} {recs:List (List UInt8)} (h:Shopped S t recs) (n:Int):∃recs',Shopped (dropS S t n).2.1 (dropS S t n).2.2 recs':=by
 unfold dropS;split
 ·exact ⟨recs,h⟩
 ·rename_i h1;have h1:(ixOf n S.held.sums).isSome=true:=by cases hx:(ixOf n S.held.sums).isSome with
   |true=>rfl
   |false=>exact absurd hx h1
  obtain ⟨r1,r2⟩:=sums_range h.shop.held h1;obtain ⟨recs',hs⟩:=h.deed (again_drop S h1 r1 r2) h.shop.rules h.shop.lock (dropH_ok n h.shop.held) (by show (dropH S.held n).2.most=40;rw [dropH_most];exact h.shop.most);refine ⟨recs',?_⟩;split
  ·rename_i h2;rw [if_pos h2] at hs;exact hs
  ·rename_i h2;rw [if_neg h2] at hs;exact hs
theorem holdsS_ok:∀(ls:List (List FileB)) (S:ShopS) (t:TapeS) (recs:List (List UInt8)),Shopped S t recs→(∀l∈ls,(treeEr l).code=0)→∃recs',Shopped (holdsS S t ls).2.1 (holdsS S t ls).2.2 recs'
 | [],S,t,recs,h,_=>⟨recs,h⟩
 |l::ls,S,t,recs,h,hl=>by
  obtain ⟨recs1,h1⟩:=holdS_ok h (hl l (by simp));unfold holdsS;split
  ·exact ⟨recs1,h1⟩
  ·exact holdsS_ok ls _ _ recs1 h1 fun x hx=>hl x (by simp [hx])
theorem loadS_ok {S:ShopS} {t:TapeS} {recs:List (List UInt8)} (h:Shopped S t recs) (s:List UInt8):∃recs',Shopped (loadS S t s).2.1 (loadS S t s).2.2 recs':=by
 unfold loadS;split
 ·exact ⟨recs,h⟩
 ·exact holdsS_ok _ S t recs h (splitLk_each _ _)
theorem Shopped.opens {S:ShopS} {t:TapeS} {recs:List (List UInt8)} (h:Shopped S t recs):openS t.bytes=(⟨0,none⟩,S):=by
 unfold openS;rw [h.tape.reads];exact h.shop.made
theorem Shopped.anew {S:ShopS} {t:TapeS} {recs:List (List UInt8)} (h:Shopped S t recs):Shopped S (recT t) recs:=⟨h.shop,recT_has h.tape⟩
end Go.Proofs.YtaabgmbjmfjdjaaGreatDoor
