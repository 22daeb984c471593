import Derived.Test.YtaabgmbjmfjdjaaGreatDoorJParsedEtc
import Derived.Test.YtaabgmbjmfjdjaaGreatDoorJTreePlains
import Derived.Test.YtaabgmbjmfjdjaaGreatDoorJTreeLoops
import Derived.Test.YtaabgmbjmfjdjaaGreatDoorJNetPlainEtc
import Derived.Test.YtaabgmbjmfjdjaaGreatDoorJLinkLenEtc
import Derived.Test.YtaabgmbjmfjdjaaGreatDoorJToldEtc
import Derived.Test.YtaabgmbjmfjdjaaGreatDoorJRefLinkUp
namespace Go.Proofs.YtaabgmbjmfjdjaaGreatDoor
open Go Go.RowKit
theorem filesE_le:∀(l:List FileB) (ahead:List FileB) (i:Nat) {p:Nat×Nat},filesE ahead i l=some p→p.2≤13
 | [],_,_,p,h=>by cases h
 |f::l,ahead,i,p,h=>by
  unfold filesE at h;split at h
  ·exact filesE_le l _ _ h
  ·obtain rfl:=Option.some.inj h;exact fileE_le _ _
theorem treeEr_le (l:List FileB):(treeEr l).code≤13:=by
 unfold treeEr;split
 ·exact Nat.le_of_ble_eq_true rfl
 ·cases h:filesE [] 0 l with
  |none=>dsimp only;split<;>exact Nat.le_of_ble_eq_true rfl
  |some p=>exact filesE_le l _ _ h
theorem readEr_le (s:List UInt8):(readEr s).code≤13:=by
 unfold readEr;split
 ·exact Nat.le_of_ble_eq_true rfl
 ·split
  ·exact treeEr_le _
  ·exact Nat.le_of_ble_eq_true rfl
theorem sortT_le (l:List FileB):(sortT l).1.code≤13:=by
 unfold sortT;split
 ·exact Nat.le_of_ble_eq_true rfl
 ·split
  ·exact treeEr_le _
  ·exact Nat.le_of_ble_eq_true rfl
theorem stripTr_le (l:List FileB) (n:Int):(stripTr l n).1.code≤13:=by
 unfold stripTr;split
 ·exact treeEr_le _
 ·cases stripIx n l with
  |none=>exact sortT_le _
  |some i=>exact stripE_le13 _ _
theorem unpackT_le (s:List UInt8) (n:Int):(unpackT s n).1≤13:=by
 unfold unpackT;split
 ·exact readEr_le _
 ·exact stripTr_le _ _
theorem openE_le (r:List (Nat×UInt8)×Option Nat) (most:Int):(openE r most).code≤13:=by
 unfold openE;split
 ·split<;>exact Nat.le_of_ble_eq_true rfl
 ·exact Nat.le_of_ble_eq_true rfl
theorem openW_le (x:WantB) (s:ByteArray):(openW x s).1≤13:=by
 unfold openW;split
 ·exact wantE_le x
 ·split
  ·exact Nat.le_of_ble_eq_true rfl
  ·split
   ·exact unpackT_le _ _
   ·split
    ·split
     ·exact openE_le _ _
     ·exact unpackT_le _ _
    ·split
     ·exact treeEr_le _
     ·exact Nat.zero_le _
theorem rightW_le (x:WantB) (s:ByteArray):(rightW x s).1≤13:=by
 unfold rightW;split
 ·exact openW_le x s
 ·split<;>exact Nat.le_of_ble_eq_true rfl
theorem readW_le (s:List UInt8):(readW s).1≤13:=by
 unfold readW;split
 ·exact Nat.le_of_ble_eq_true rfl
 ·split
  ·exact wantE_le _
  ·exact Nat.zero_le _
def wayB (n:NetB) (u:ByteArray) (w:WantB):Nat×List FileB×NetB:=
 if (getN n u).2.1≠0 then ((getN n u).2.1,[],(getN n u).2.2)
 else ((rightW w ⟨(getN n u).1.toArray⟩).1,(rightW w ⟨(getN n u).1.toArray⟩).2,(getN n u).2.2)
theorem wayOne_bl (n:NetB) (u:ByteArray) (w:WantB):wayOne n (bl u) w=wayB n u w:=by
 unfold wayOne wayB;rw [mk_bl]
theorem tryGo_ok {w:WantB} {n:NetB} {u:List UInt8} {us lines:List (List UInt8)} {last:Nat} (h:(wayOne n u w).1=0):tryGo w n (u::us) lines last=(0,(wayOne n u w).2.1,lines++[okLine u],(wayOne n u w).2.2):=by
 rw [tryGo,if_pos h]
theorem tryGo_no {w:WantB} {n:NetB} {u:List UInt8} {us lines:List (List UInt8)} {last:Nat} (h:(wayOne n u w).1≠0):tryGo w n (u::us) lines last=tryGo w (wayOne n u w).2.2 us (lines++[badLine u (wayOne n u w).1]) (wayOne n u w).1:=by
 rw [tryGo,if_neg h]
theorem getN_len {n:NetB} {u:ByteArray} (h:NetOk n):(getN n u).1.length≤20000:=by
 unfold getN;split
 ·exact Nat.zero_le _
 ·split
  ·exact Nat.zero_le _
  ·split
   ·exact Nat.zero_le _
   ·rename_i x hx;obtain ⟨_,h2⟩:=siteAt_url hx;have h3:=(h.small x h2).2.1;show (cutText x.text x.cut).length≤_;unfold cutText;split
    ·rw [List.length_take,bl_length];omega
    ·rw [bl_length];omega
theorem waysOut_short {l:List RuleL} {s:List UInt8} (hs:linkE s=0):∀x∈waysOut l s,x.length≤200:=fun x hx=>Nat.le_trans (link_short ((waysOut_ok hs).1 x hx)) (by decide)
theorem askE_no {l:List RuleL} {w:WantB} (h:(rulesEr l).code≠0):askE l w=rulesEr l:=by unfold askE;rw [if_pos h]
theorem askE_from {l:List RuleL} {w:WantB} (h:(rulesEr l).code=0):askE l w=⟨wantE w,none⟩:=by unfold askE;rw [if_neg (by omega)]
theorem tryF_ask {n:NetB} {l:List RuleL} {w:WantB} (h:(askE l w).code≠0):tryF n l w=(askE l w,[],[],n):=by unfold tryF;rw [if_pos h]
theorem tryF_from {n:NetB} {l:List RuleL} {w:WantB} (h:(askE l w).code=0):tryF n l w=(⟨(tryGo w n (waysOut l (bl w.url)) [] 0).1,none⟩,(tryGo w n (waysOut l (bl w.url)) [] 0).2):=by unfold tryF;rw [if_neg (by omega)]
theorem fetchF_ask {h:HeldB} {n:NetB} {l:List RuleL} {w:WantB} (h0:(askE l w).code≠0):fetchF h n l w=(askE l w,[],[],h,n):=by unfold fetchF;rw [if_pos h0]
theorem fetchF_held {h:HeldB} {n:NetB} {l:List RuleL} {w:WantB} {t:List FileB} (h0:(askE l w).code=0) (h1:getL h.trees w.sum=some t):fetchF h n l w=(⟨0,none⟩,t,[heldLine],h,n):=by unfold fetchF;rw [if_neg (by omega),h1]
theorem fetchF_from {h:HeldB} {n:NetB} {l:List RuleL} {w:WantB} (h0:(askE l w).code=0) (h1:getL h.trees w.sum=none):fetchF h n l w=((tryF n l w).1,(tryF n l w).2.1,(tryF n l w).2.2.1,if (tryF n l w).1.code=0 then (putH h (tryF n l w).2.1).2.2 else h,(tryF n l w).2.2.2):=by unfold fetchF;rw [if_neg (by omega),h1]
theorem askE_want {l:List RuleL} {w:WantB} (h:(askE l w).code=0):WantOk w:=wantE_zero (askE_zero h).2
end Go.Proofs.YtaabgmbjmfjdjaaGreatDoor
