import Derived.Test.YtaabgmbjmfjdjaaGreatDoorJMirrorPlainEtc
import Derived.Test.YtaabgmbjmfjdjaaGreatDoorJNetPlainEtc
namespace Go.Proofs.YtaabgmbjmfjdjaaGreatDoor
open Go
theorem lcutEq {l sep:List UInt8} (h:(Lib.cut l sep).2.2=true):l=(Lib.cut l sep).1++(sep++(Lib.cut l sep).2.1):=by
 rcases Lib.index_spec l sep with ⟨h1,_⟩|⟨i,h1,_,h3,_⟩
 ·unfold Lib.cut at h;rw [h1] at h;simp at h
 ·obtain ⟨r,hr⟩:=List.isPrefixOf_iff_prefix.1 h3;have e:Lib.cut l sep=(l.take i,l.drop (i+sep.length),true):=by
   unfold Lib.cut;rw [h1,if_pos (by omega)];simp
  rw [e];show l=l.take i++(sep++l.drop (i+sep.length));have:l.drop (i+sep.length)=r:=by rw [←List.drop_drop,←hr,List.drop_left]
  rw [this,hr,List.take_append_drop]
theorem lpartLen {x:List UInt8} (h:partB x=true):x.length≤12:=by
 unfold partB at h;simp only [Bool.and_eq_true,decide_eq_true_eq] at h;exact h.1.1.1.2
theorem lpartsLen:∀w:List (List UInt8),w.all partB=true→([47].intercalate w:List UInt8).length≤w.length*13
 | [],_=>by simp [List.intercalate]
 | [x],h=>by
  rw [List.all_cons,Bool.and_eq_true] at h;have:=lpartLen h.1;simp [List.intercalate];omega
 |x::y::r,h=>by
  rw [List.all_cons,Bool.and_eq_true] at h;have:=lpartLen h.1;have ih:=lpartsLen (y::r) h.2;rw [join_cons,List.length_append,List.length_cons];simp only [List.length_cons] at ih⊢;omega
theorem link_short {l:List UInt8} (h:linkE l=0):l.length≤120:=by
 unfold linkE at h;by_cases h0:lkE l=0
 ·rw [if_pos h0] at h;obtain ⟨p1,p2⟩:=partsE_ok h;have lp:(lkP l).length≤78:=by
   have:=lpartsLen _ p1;rw [cutL_join] at this;omega
  unfold lkE at h0;split at h0
  ·cases h0
  ·rename_i c1;split at h0
   ·cases h0
   ·rename_i c2;split at h0
    ·cases h0
    ·rename_i c3;have e1:lkIs l=true:=by cases hq:lkIs l;simp [hq] at c1;rfl
     have e2:lkAlso l=true:=by cases hq:lkAlso l;simp [hq] at c1;rfl
     have e3:kinds.contains (lkK l)=true:=by simpa using c2
     have e4:partB (lkH l)=true:=by simpa using c3
     have l1:=congrArg List.length (lcutEq e1);have l2:=congrArg List.length (lcutEq e2);rw [List.length_append,List.length_append] at l1 l2;have k4:(lkK l).length≤4:=by
      have:=List.contains_iff_mem.1 e3;unfold kinds at this;simp only [List.mem_cons,List.not_mem_nil,or_false] at this;rcases this with h|h|h<;>rw [h]<;>decide
     have k5:=lpartLen e4;have k6:sepL.length=3:=rfl;have k7:([47]:List UInt8).length=1:=rfl;unfold lkK at k4;unfold lkP at lp;unfold lkH at k5;unfold lkR at*;omega
 ·rw [if_neg h0] at h;exact absurd h h0
theorem trimSuffix_len (s:List UInt8):s.length≤(Lib.trimSuffix s [47]).length+1:=by
 unfold Lib.trimSuffix;split
 ·rw [List.length_take,show ([47]:List UInt8).length=1 from rfl];omega
 ·exact Nat.le_succ _
theorem begin_short {l:List UInt8} (h:beginE l=0):l.length≤120:=by
 unfold beginE at h;by_cases h0:lkE l=0
 ·rw [if_pos h0] at h;have lp:(lkP l).length≤79:=by
   have ht:=trimSuffix_len (lkP l);split at h
   ·rename_i h1;rw [h1] at ht;simp at ht;omega
   ·obtain ⟨p1,p2⟩:=partsE_ok h;have:=lpartsLen _ p1;rw [cutL_join] at this;omega
  unfold lkE at h0;split at h0
  ·cases h0
  ·rename_i c1;split at h0
   ·cases h0
   ·rename_i c2;split at h0
    ·cases h0
    ·rename_i c3;have e1:lkIs l=true:=by cases hq:lkIs l;simp [hq] at c1;rfl
     have e2:lkAlso l=true:=by cases hq:lkAlso l;simp [hq] at c1;rfl
     have e3:kinds.contains (lkK l)=true:=by simpa using c2
     have e4:partB (lkH l)=true:=by simpa using c3
     have l1:=congrArg List.length (lcutEq e1);have l2:=congrArg List.length (lcutEq e2);rw [List.length_append,List.length_append] at l1 l2;have k4:(lkK l).length≤4:=by
      have:=List.contains_iff_mem.1 e3;unfold kinds at this;simp only [List.mem_cons,List.not_mem_nil,or_false] at this;rcases this with h|h|h<;>rw [h]<;>decide
     have k5:=lpartLen e4;have k6:sepL.length=3:=rfl;have k7:([47]:List UInt8).length=1:=rfl;unfold lkK at k4;unfold lkP at lp;unfold lkH at k5;unfold lkR at*;omega
 ·rw [if_neg h0] at h;exact absurd h h0
theorem firstE_each:∀{l:List (List UInt8)},firstE l=0→∀t∈l,beginE t=0
 | [],_,t,ht=>by cases ht
 |x::r,h,t,ht=>by
  unfold firstE at h;by_cases h0:beginE x=0
  ·rw [if_pos h0] at h;rcases List.mem_cons.1 ht with rfl|ht
   ·exact h0
   ·exact firstE_each h t ht
  ·rw [if_neg h0] at h;exact absurd h h0
theorem one_small {r:RuleB} (h:oneE (ruleOf r)=0):Small r:=by
 obtain ⟨f,ts⟩:=r;unfold oneE ruleOf at h;dsimp only at h;by_cases h0:beginE (bl f)=0
 ·rw [if_pos h0] at h;by_cases h8:8<(ts.map bl).length
  ·rw [if_pos h8] at h;cases h
  ·rw [if_neg h8] at h;rw [List.length_map] at h8;refine ⟨?_,by show ts.length≤10;omega,fun t ht=>?_⟩
   ·show f.size≤120;rw [←bl_length];exact begin_short h0
   ·rw [←bl_length];exact begin_short (firstE_each h _ (List.mem_map.2 ⟨t,ht,rfl⟩))
 ·rw [if_neg h0] at h;exact absurd h h0
theorem rules_small {l:List RuleB} (h:(rulesEr (l.map ruleOf)).code=0):l.length≤10∧∀r∈l,Small r:=by
 obtain ⟨_,h1,h2⟩:=rulesEr_zero h;rw [List.length_map] at h1;exact ⟨h1,fun r hr=>one_small (h2 _ (List.mem_map.2 ⟨r,hr,rfl⟩))⟩
end Go.Proofs.YtaabgmbjmfjdjaaGreatDoor
