import Derived.Test.YtaabgmbjmfjdjaaGreatDoorJRefTryEtc
import Derived.Test.YtaabgmbjmfjdjaaGreatDoorJShopAgainEtc
import Derived.Test.YtaabgmbjmfjdjaaGreatDoorJMirrorPlainEtc
import Derived.Test.YtaabgmbjmfjdjaaGreatDoorJLockUpEtc
import Derived.Laws.NewBlocks
import Derived.Lib.SliceRun
namespace Go.Proofs.YtaabgmbjmfjdjaaGreatDoor
open Go Go.RowKit
set_option maxHeartbeats 1000000
set_option maxRecDepth 100000
theorem kt_map (es:Array MapEntry) (c:Nat):¬TapeRow (.map es c):=by rintro (⟨_,_,h⟩|⟨_,_,h⟩)<;>cases h
theorem kt_other (T:TypeId) (h1:T≠5) (h2:T≠79) (cs:Array Value) (fz:Nat×Nat):¬TapeRow (.cells cs T fz):=by
 rintro (⟨_,_,h⟩|⟨_,_,h⟩)
 ·injection h with _ h _;exact h1 h
 ·injection h with _ h _;exact h2 h
theorem kh_other (T:TypeId) (h1:T≠110) (cs:Array Value) (fz:Nat×Nat):¬HeldRow (.cells cs T fz):=by
 rintro (⟨_,_,h⟩|⟨_,_,h⟩)
 ·cases h
 ·injection h with _ h _;exact h1 h
theorem kn_other (T:TypeId) (h1:T≠55) (cs:Array Value) (fz:Nat×Nat):¬NetRow (.cells cs T fz):=by
 rintro (⟨_,_,h⟩|⟨_,_,h⟩)
 ·cases h
 ·injection h with _ h _;exact h1 h
theorem ks_map (es:Array MapEntry) (c:Nat):¬ShopRow (.map es c):=fun ⟨_,_,h⟩=>by cases h
theorem ks_other (T:TypeId) (h1:T≠85) (cs:Array Value) (fz:Nat×Nat):¬ShopRow (.cells cs T fz):=fun ⟨_,_,h⟩=>by injection h with _ h _;exact h1 h
section
variable {w w':World} {B nb hb tb sb tn:Nat} {rv lv:Value} {rl:List RuleB} {n:NetB} {S:ShopS} {t:TapeS}
theorem ProgAt.turnTape {t':TapeS} (h:ProgAt w B nb hb tb sb rv lv rl n S t tn) (hk:Keeps TapeRow B w w') (ht:TapeIs w' B tb t'):ProgAt w' B nb hb tb sb rv lv rl n S t' tn where
 hsb:=h.hsb
 shop:=hk.keep sb _ h.shop (kt_other _ (by decide) (by decide) _ _)
 rules:=h.rules.keeps hk (kt_other _ (by decide) (by decide)) (kt_other _ (by decide) (by decide))
 ruled:=h.ruled
 lock:=hk.owns h.lock (fun cs=>kt_other _ (by decide) (by decide) cs _)
 held:=h.held.keeps hk kt_map (kt_other _ (by decide) (by decide)) (fun cs=>kt_other _ (by decide) (by decide) cs _) (fun cs=>kt_other _ (by decide) (by decide) cs _)
 tape:=ht
 net:=h.net.keeps hk kt_map (kt_other _ (by decide) (by decide))
 apart:=h.apart
theorem ProgAt.turnHeld {hh:HeldB} (h:ProgAt w B nb hb tb sb rv lv rl n S t tn) (hk:KeepsU 2 hb HeldRow B w w') (ht:HeldIs w' B hb hh):ProgAt w' B nb hb tb sb rv lv rl n {S with held:=hh} t tn where
 hsb:=h.hsb
 shop:=hk.toKeeps.keep sb _ h.shop (kh_other _ (by decide) _ _)
 rules:=h.rules.keeps hk.toKeeps (kh_other _ (by decide)) (kh_other _ (by decide))
 ruled:=h.ruled
 lock:=hk.toKeeps.owns h.lock (fun cs=>kh_other _ (by decide) cs _)
 held:=ht
 tape:=h.tape.keeps hk.toKeeps (kh_other _ (by decide)) (kh_other _ (by decide))
 net:=h.net.apartH hk h.apart
 apart:=h.apart
theorem ProgAt.turnNet {n':NetB} {tn':Nat} (h:ProgAt w B nb hb tb sb rv lv rl n S t tn) (hk:KeepsU 4 nb NetRow B w w') (ht:NetIs w' B nb n' tn'):ProgAt w' B nb hb tb sb rv lv rl n' S t tn' where
 hsb:=h.hsb
 shop:=hk.toKeeps.keep sb _ h.shop (kn_other _ (by decide) _ _)
 rules:=h.rules.keeps hk.toKeeps (kn_other _ (by decide)) (kn_other _ (by decide))
 ruled:=h.ruled
 lock:=hk.toKeeps.owns h.lock (fun cs=>kn_other _ (by decide) cs _)
 held:=h.held.apartN hk h.apart
 tape:=h.tape.keeps hk.toKeeps (kn_other _ (by decide)) (kn_other _ (by decide))
 net:=ht
 apart:=h.apart
theorem shop_set (h:w.heap[sb]? =some (.cells #[.pointer (some ⟨nb,0,none⟩),rv,lv,.pointer (some ⟨hb,0,none⟩),.pointer (some ⟨tb,0,none⟩)] 85 (0,0))) (x:Value):
  (w.setCell ⟨sb,1,none⟩ x).heap[sb]? =some (.cells #[.pointer (some ⟨nb,0,none⟩),x,lv,.pointer (some ⟨hb,0,none⟩),.pointer (some ⟨tb,0,none⟩)] 85 (0,0))∧
  (w.setCell ⟨sb,2,none⟩ x).heap[sb]? =some (.cells #[.pointer (some ⟨nb,0,none⟩),rv,x,.pointer (some ⟨hb,0,none⟩),.pointer (some ⟨tb,0,none⟩)] 85 (0,0)):=
 ⟨by simp [World.setCell,Array.getElem?_modify,h],by simp [World.setCell,Array.getElem?_modify,h]⟩
theorem ProgAt.store (h:ProgAt w B nb hb tb sb rv lv rl n S t tn) (j:Nat) (x:Value) (hBw:B≤w.heap.size):Keeps ShopRow B w (w.setCell ⟨sb,j,none⟩ x):=
 Keeps.one (grown_set w sb j x) h.hsb hBw h.shop ⟨_,_,rfl⟩
theorem ProgAt.setLock {l:List WantB} {x:Value} (h:ProgAt w B nb hb tb sb rv lv rl n S t tn) (hx:WOwn w B x l) (hBw:B≤w.heap.size):ProgAt (w.setCell ⟨sb,2,none⟩ x) B nb hb tb sb rv x rl n {S with lock:=l} t tn:=by
 have hk:=h.store 2 x hBw;exact ⟨h.hsb,(shop_set h.shop x).2,h.rules.keeps hk (ks_other _ (by decide)) (ks_other _ (by decide)),h.ruled,hk.owns hx (fun cs=>ks_other _ (by decide) cs _),
  h.held.keeps hk ks_map (ks_other _ (by decide)) (fun cs=>ks_other _ (by decide) cs _) (fun cs=>ks_other _ (by decide) cs _),h.tape.keeps hk (ks_other _ (by decide)) (ks_other _ (by decide)),h.net.keeps hk ks_map (ks_other _ (by decide)),h.apart⟩
theorem ProgAt.setRules {l:List RuleB} {x:Value} (h:ProgAt w B nb hb tb sb rv lv rl n S t tn) (hx:RulesOwn w B x l) (hBw:B≤w.heap.size):ProgAt (w.setCell ⟨sb,1,none⟩ x) B nb hb tb sb x lv l n {S with rules:=l.map ruleOf} t tn:=by
 have hk:=h.store 1 x hBw;exact ⟨h.hsb,(shop_set h.shop x).1,hx.keeps hk (ks_other _ (by decide)) (ks_other _ (by decide)),rfl,hk.owns h.lock (fun cs=>ks_other _ (by decide) cs _),
  h.held.keeps hk ks_map (ks_other _ (by decide)) (fun cs=>ks_other _ (by decide) cs _) (fun cs=>ks_other _ (by decide) cs _),h.tape.keeps hk (ks_other _ (by decide)) (ks_other _ (by decide)),h.net.keeps hk ks_map (ks_other _ (by decide)),h.apart⟩
theorem ProgAt.cells (h:ProgAt w B nb hb tb sb rv lv rl n S t tn):w.cell? ⟨sb,0,none⟩=some (.pointer (some ⟨nb,0,none⟩))∧w.cell? ⟨sb,1,none⟩=some rv∧w.cell? ⟨sb,2,none⟩=some lv∧w.cell? ⟨sb,3,none⟩=some (.pointer (some ⟨hb,0,none⟩))∧w.cell? ⟨sb,4,none⟩=some (.pointer (some ⟨tb,0,none⟩)):=
 ⟨by rw [Lib.cell_of_heap h.shop];rfl,by rw [Lib.cell_of_heap h.shop];rfl,by rw [Lib.cell_of_heap h.shop];rfl,by rw [Lib.cell_of_heap h.shop];rfl,by rw [Lib.cell_of_heap h.shop];rfl⟩
theorem ProgAt.froz (h:ProgAt w B nb hb tb sb rv lv rl n S t tn) (j:Nat):w.frozen? ⟨sb,j,none⟩=false:=Lib.frozen_of_heap h.shop j
end
theorem Keeps.p_tape {B:Nat} {w w':World} (h:Keeps TapeRow B w w'):Keeps PRow B w w':=h.wide fun _ h=>.inr (.inr (.inl h))
theorem Keeps.p_held {B:Nat} {w w':World} (h:Keeps HeldRow B w w'):Keeps PRow B w w':=h.wide fun _ h=>.inr (.inl h)
theorem Keeps.p_net {B:Nat} {w w':World} (h:Keeps NetRow B w w'):Keeps PRow B w w':=h.wide fun _ h=>.inl h
theorem Keeps.p_shop {B:Nat} {w w':World} (h:Keeps ShopRow B w w'):Keeps PRow B w w':=h.wide fun _ h=>.inr (.inr (.inr h))
theorem small_want {w:WantB} (h:wantE w=0):SmallW w:=by
 obtain ⟨hn,hu,hk,_⟩:=wantE_zero h;refine ⟨by have:=want_name h;omega,?_,?_⟩
 ·have:=link_short hu;rw [bl_length] at this;omega
 ·have h2:=bl_length w.kind;unfold wkinds at hk;simp only [List.mem_cons,List.not_mem_nil,or_false] at hk;rcases hk with h|h|h<;>rw [h] at h2<;>(have h3:kPlain.length=5∧kPack.length=4∧kPress.length=5:=⟨rfl,rfl,rfl⟩;omega)
theorem LockOk.small {l:List WantB} (h:LockOk l):∀w∈l,SmallW w:=fun w hw=>small_want (h.each w hw)
structure OpOk (S:ShopS):Prop where
 rules:(rulesEr S.rules).code=0
 lock:LockOk S.lock
theorem OpOk.empty:OpOk emptyS:=⟨rfl,lockOk_nil⟩
theorem OpOk.step {S:ShopS} {r:List UInt8} (h:OpOk S) (h0:(againS S r).1=0):OpOk (againS S r).2:=by
 obtain ⟨k,x,b,hc⟩:∃k x b,Lib.cut r [32]=(k,x,b):=⟨_,_,_,rfl⟩
 cases b with
 |false=>rw [againS_no (by rw [hc])] at h0⊢;exact h
 |true=>
  rw [againS_is hc] at h0⊢;by_cases h1:k=wRule
  ·subst h1;rw [agW_rule] at h0⊢;by_cases he:(rulesEr (S.rules++[((cutL 32 x).headD [],(cutL 32 x).tail)])).code≠0
   ·rw [if_pos he] at h0;exact absurd h0 he
   ·rw [if_neg he];exact ⟨by simpa using he,h.lock⟩
  by_cases h2:k=wWant
  ·subst h2;rw [agW_want] at h0⊢;by_cases he:(readW x).1≠0
   ·rw [if_pos he] at h0;cases h0
   ·rw [if_neg he] at h0⊢;exact ⟨h.rules,setLk_right h.lock h0⟩
  by_cases h3:k=wUnwant
  ·subst h3;rw [agW_unwant] at h0⊢;exact ⟨h.rules,dropLk_right h.lock h0⟩
  by_cases h4:k=wHold
  ·subst h4;rw [agW_hold] at h0⊢;by_cases he:(readEr x).code≠0
   ·rw [if_pos he] at h0;cases h0
   ·rw [if_neg he];exact ⟨h.rules,h.lock⟩
  by_cases h5:k=wDrop
  ·subst h5;rw [agW_drop] at h0⊢
   cases hn:numOf x 10 with
   |none=>rw [hn] at h0;cases h0
   |some n=>exact ⟨h.rules,h.lock⟩
  ·rw [agW_other S x h1 h2 h3 h4 h5] at h0;cases h0
theorem cutL_pos (c:UInt8) (l:List UInt8):0<(cutL c l).length:=List.length_pos_iff.2 (cutL_ne c l)
theorem read_right {s:List UInt8} (h:(readEr s).code=0):(treeEr (readT s)).code=0:=by
 have h20:¬20000<s.length:=fun h2=>by rw [(readEr_big h2).1] at h;cases h
 obtain ⟨acc,ok,ha⟩:∃acc ok,allL s=(acc,ok):=⟨_,_,rfl⟩
 cases ok with
 |false=>rw [(readEr_bad h20 ha).1] at h;cases h
 |true=>
  obtain ⟨h1,h2⟩:=readEr_all h20 ha;rw [h1] at h;rw [h2,if_pos h];exact h
theorem num_ten {l:List UInt8} {n:Nat} (h:numOf l 10=some n):n<10000000000:=by
 obtain ⟨h1,h2⟩:=numOf_some h;have h3:=valD_lt (Lib.decDigits n) 0 (decDigits_isD n);rw [valD_dec,←h1] at h3;have h4:10 ^ l.length≤10 ^ 10:=Nat.pow_le_pow_right (by decide) h2;omega
theorem dropHd_le (h:HeldB) (n:Int):(dropH h n).1≤13:=by unfold dropH;split<;>exact Nat.le_of_ble_eq_true rfl
theorem IsErr.shopCell {E:Nat→Addr} {w:World} {v:Value} {er:Er} {sb:Nat} {p:Option Addr} (h:IsErr E w v er) (hc:w.cell? ⟨sb,0,none⟩=some (.pointer p)) (j:Nat) (x:Value):IsErr E (w.setCell ⟨sb,j,none⟩ x) v er:=by
 rcases h with h|h|⟨k,a',b,hk,h1,h2,h3,h4⟩
 ·exact .inl h
 ·exact .inr (.inl h)
 ·have hne:b≠sb:=by
   rintro rfl;rw [hc] at h3
   cases h3
  have e:∀i,(w.setCell ⟨sb,j,none⟩ x).cell? ⟨b,i,none⟩=w.cell? ⟨b,i,none⟩:=fun i=>World.cell?_of_block (w:=w) (a:=⟨b,i,none⟩) (Below.heap_setCell _ _ _ _ hne)
  exact .inr (.inr ⟨k,a',b,hk,h1,h2,by rw [e];exact h3,by rw [e];exact h4⟩)
structure AgAt (w:World) (B hb sb:Nat) (np tp rv lv:Value) (rl:List RuleB) (S:ShopS):Prop where
 hsb:B≤sb
 shop:w.heap[sb]? =some (.cells #[np,rv,lv,.pointer (some ⟨hb,0,none⟩),tp] 85 (0,0))
 rules:RulesOwn w B rv rl
 ruled:rl.map ruleOf=S.rules
 lock:WOwn w B lv S.lock
 held:HeldIs w B hb S.held
def AgIs (w:World) (B hb sb:Nat) (np tp:Value) (S:ShopS):Prop:=∃rv lv rl,AgAt w B hb sb np tp rv lv rl S
section
variable {w w':World} {B hb sb:Nat} {np tp rv lv:Value} {rl:List RuleB} {S:ShopS}
theorem AgAt.below (h:AgAt w B hb sb np tp rv lv rl S) (hb2:Below w.heap.size w w'):AgAt w' B hb sb np tp rv lv rl S where
 hsb:=h.hsb
 shop:=by rw [hb2.block sb (Array.getElem?_eq_some_iff.1 h.shop).1];exact h.shop
 rules:=h.rules.ext hb2
 ruled:=h.ruled
 lock:=h.lock.ext hb2
 held:=h.held.below hb2
theorem AgAt.turnHeld {hh:HeldB} (h:AgAt w B hb sb np tp rv lv rl S) (hk:KeepsU 2 hb HeldRow B w w') (ht:HeldIs w' B hb hh):AgAt w' B hb sb np tp rv lv rl {S with held:=hh} where
 hsb:=h.hsb
 shop:=hk.toKeeps.keep sb _ h.shop (kh_other _ (by decide) _ _)
 rules:=h.rules.keeps hk.toKeeps (kh_other _ (by decide)) (kh_other _ (by decide))
 ruled:=h.ruled
 lock:=hk.toKeeps.owns h.lock (fun cs=>kh_other _ (by decide) cs _)
 held:=ht
theorem ag_set (h:w.heap[sb]? =some (.cells #[np,rv,lv,.pointer (some ⟨hb,0,none⟩),tp] 85 (0,0))) (x:Value):
  (w.setCell ⟨sb,1,none⟩ x).heap[sb]? =some (.cells #[np,x,lv,.pointer (some ⟨hb,0,none⟩),tp] 85 (0,0))∧
  (w.setCell ⟨sb,2,none⟩ x).heap[sb]? =some (.cells #[np,rv,x,.pointer (some ⟨hb,0,none⟩),tp] 85 (0,0)):=
 ⟨by simp [World.setCell,Array.getElem?_modify,h],by simp [World.setCell,Array.getElem?_modify,h]⟩
theorem AgAt.store (h:AgAt w B hb sb np tp rv lv rl S) (j:Nat) (x:Value) (hBw:B≤w.heap.size):Keeps ShopRow B w (w.setCell ⟨sb,j,none⟩ x):=
 Keeps.one (grown_set w sb j x) h.hsb hBw h.shop ⟨_,_,rfl⟩
theorem AgAt.setLock {l:List WantB} {x:Value} (h:AgAt w B hb sb np tp rv lv rl S) (hx:WOwn w B x l) (hBw:B≤w.heap.size):AgAt (w.setCell ⟨sb,2,none⟩ x) B hb sb np tp rv x rl {S with lock:=l}:=by
 have hk:=h.store 2 x hBw;exact ⟨h.hsb,(ag_set h.shop x).2,h.rules.keeps hk (ks_other _ (by decide)) (ks_other _ (by decide)),h.ruled,hk.owns hx (fun cs=>ks_other _ (by decide) cs _),
  h.held.keeps hk ks_map (ks_other _ (by decide)) (fun cs=>ks_other _ (by decide) cs _) (fun cs=>ks_other _ (by decide) cs _)⟩
theorem AgAt.setRules {l:List RuleB} {x:Value} (h:AgAt w B hb sb np tp rv lv rl S) (hx:RulesOwn w B x l) (hBw:B≤w.heap.size):AgAt (w.setCell ⟨sb,1,none⟩ x) B hb sb np tp x lv l {S with rules:=l.map ruleOf}:=by
 have hk:=h.store 1 x hBw;exact ⟨h.hsb,(ag_set h.shop x).1,hx.keeps hk (ks_other _ (by decide)) (ks_other _ (by decide)),rfl,hk.owns h.lock (fun cs=>ks_other _ (by decide) cs _),
  h.held.keeps hk ks_map (ks_other _ (by decide)) (fun cs=>ks_other _ (by decide) cs _) (fun cs=>ks_other _ (by decide) cs _)⟩
theorem AgAt.cells (h:AgAt w B hb sb np tp rv lv rl S):w.cell? ⟨sb,0,none⟩=some np∧w.cell? ⟨sb,1,none⟩=some rv∧w.cell? ⟨sb,2,none⟩=some lv∧w.cell? ⟨sb,3,none⟩=some (.pointer (some ⟨hb,0,none⟩))∧w.cell? ⟨sb,4,none⟩=some tp:=
 ⟨by rw [Lib.cell_of_heap h.shop];rfl,by rw [Lib.cell_of_heap h.shop];rfl,by rw [Lib.cell_of_heap h.shop];rfl,by rw [Lib.cell_of_heap h.shop];rfl,by rw [Lib.cell_of_heap h.shop];rfl⟩
theorem AgAt.froz (h:AgAt w B hb sb np tp rv lv rl S) (j:Nat):w.frozen? ⟨sb,j,none⟩=false:=Lib.frozen_of_heap h.shop j
end
def AgPost (E:Nat→Addr) (B hb sb:Nat) (np tp:Value) (r:Nat×ShopS) (w:World) (e:Ending) (w':World):Prop:=
 (∃ev er,e=.returned ev∧Hid (IsErr E w' ev er)∧er.code=r.1)∧Hid (r.1=0→AgIs w' B hb sb np tp r.2)∧Below B w w'
section
open Go.Lib
theorem cloneStrs_any (v:Value) (l:List ByteArray) (w:World) (hn:l.length≤1000000) (hv:RowP w v l):
  Calls Tryz.prog 65 #[v] w fun e w'=>(∃ov,e=.returned ov∧Hid (w'.ownsRow w.heap.size 9 1 ov l.length (l.map Value.string)))∧Below w.heap.size w w':=by
 obtain ⟨i0,hi0,hz0,hz1,hz2⟩:=info_parts Tryz.infoW;have hq:∀(W:World) (a:Option Addr) (n c:Nat),(binOp .eql 22 (.slice a n c) (.slice none 0 0)).run Tryz.prog W=.ok (.bool a.isNone) W:=fun W a n c=>Go.Lib.run_eql_slice_nil W _ _ a n c 0 0 Tryz.underlying22
 obtain ⟨ao,cap,rfl,h1,h2,h3,H4⟩:=hv
 cases ao with
 |none=>
  obtain rfl:=h3 rfl;have h0:l=[]:=List.eq_nil_of_length_eq_zero (by omega);subst h0;clear H4;go_enter Tryz.func65,Tryz.ntmps65;go_wp2_with fail;go_ret;exact ⟨⟨_,rfl,World.ownsRow_nil _ _ _ _⟩,Below.refl _ _⟩
 |some ad=>
  have HM:=Lib.hid H4;clear H4 h3;go_enter Tryz.func65,Tryz.ntmps65;go_wp2_with (at_builtin;refine wpList_append_own _ rfl _ _ 22 rfl w.heap.size 9 i0 (.string ⟨#[]⟩) 1 16 Tryz.underlying22 hi0 hz0 hz1 hz2 rfl (by decide) _ 0 _ rfl (World.ownsRow_made w #[] 0 (Nat.le_refl _) (Nat.zero_le _) rfl) ad l.length cap (l.map Value.string) rfl (by simp) ?c1 ?c2 ?c3 ?c4 ?c5 ?_)
  case c1=>
   intro j u hj;rw [List.getElem?_map] at hj
   cases ht2:l[j]? with
   |none=>rw [ht2] at hj;cases hj
   |some t=>
    rw [ht2] at hj;obtain rfl:=Option.some.inj hj;obtain ⟨hj2,ht3⟩:=List.getElem?_eq_some_iff.1 ht2;obtain ⟨b2,off2,e,hbl2,hc2⟩:=HM.out j hj2;obtain rfl:=Option.some.inj e;rw [Addr.add_lit];have:=hc2 j hj2;rw [ht3] at this;exact cell?_alloc_some _ this
  case c2=>intro u hu;obtain ⟨y,_,rfl⟩:=List.mem_map.1 hu;rfl
  case c3=>rw [maxLen_eq];omega
  case c4=>omega
  case c5=>simp
  intro v' w' hown hgrow _;have hb:Below w.heap.size w w':=((Below.refl _ w).alloc (Nat.le_refl _) _).grown hgrow (by simp) (by intro k hk;simp [Value.ownBlock] at hk;omega);have H:Hid (w'.ownsRow w.heap.size 9 1 v' l.length (l.map Value.string)):=by
   show w'.ownsRow _ _ _ _ _ _;simpa using hown
  clear hown hgrow HM;go_wp2_with fail;go_ret;exact ⟨⟨_,rfl,H⟩,hb⟩
end
theorem HeldIs.low {w:World} {B B2 b:Nat} {h:HeldB} (hi:HeldIs w B b h) (hB:B2≤B):HeldIs w B2 b h:=by
 obtain ⟨h0,ov,mb,f,hA⟩:=hi;refine ⟨h0,ov,mb,f,Nat.le_trans hB hA.hb,Nat.le_trans hB hA.hm,hA.hlt,hA.blk,IOwn.low hA.order hB,hA.map,fun n=>?_⟩;rcases hA.vals n with h|⟨l,x,h2,h3,h4⟩
 ·exact .inl h
 ·exact .inr ⟨l,x,h2,h3,FOwn.low h4 hB⟩
theorem TapeIs.low {w:World} {B B2 b:Nat} {t:TapeS} (h:TapeIs w B b t) (hB:B2≤B):TapeIs w B2 b t:=by
 obtain ⟨⟨q1,v,q2,q3⟩,q4⟩:=h;refine ⟨⟨Nat.le_trans hB q1,v,q2,?_⟩,q4⟩;rcases q3 with h|⟨g,cap,cur,lo,hi,e,p1,p2⟩
 ·exact .inl h
 ·exact .inr ⟨g,cap,cur,lo,hi,e,Nat.le_trans hB p1,p2⟩
theorem RulesOwn.low {w:World} {base B:Nat} {v:Value} {l:List RuleB} (h:RulesOwn w base v l) (hB:B≤base):RulesOwn w B v l:=by
 obtain ⟨tvs,hl,ho,hr⟩:=h;refine ⟨tvs,hl,own_mono ho hB,fun j hj=>?_⟩;obtain ⟨tv,h1,h2⟩:=hr j hj;exact ⟨tv,h1,own_mono h2 hB⟩
theorem AgAt.prog {w:World} {B Bo nb hb tb sb tn:Nat} {rv lv:Value} {rl:List RuleB} {n:NetB} {S:ShopS} {t:TapeS} (h:AgAt w Bo hb sb (.pointer (some ⟨nb,0,none⟩)) (.pointer (some ⟨tb,0,none⟩)) rv lv rl S) (hB:B≤Bo) (hn:NetIs w B nb n tn) (ht:TapeIs w B tb t) (ha:nb+2≤hb):ProgAt w B nb hb tb sb rv lv rl n S t tn:=
 ⟨Nat.le_trans hB h.hsb,h.shop,h.rules.low hB,h.ruled,h.lock.low hB,h.held.low hB,ht,hn,ha⟩
theorem shopEmpty_any (p q:Option Addr) (w:World):
  Calls Tryz.prog 21 #[.pointer p,.pointer q] w fun e w'=>∃hb sb,e=.returned (.pointer (some ⟨sb,0,none⟩))∧w.heap.size+1≤hb∧Hid (AgAt w' w.heap.size hb sb (.pointer p) (.pointer q) (.slice none 0 0) (.slice none 0 0) [] emptyS)∧Below w.heap.size w w':=by
 have C:=Lib.hid (heldNew_any 40 w);go_enter Tryz.func21,Tryz.ntmps21;go_wp2_with fail;refine C.out.mono ?_;clear C;rintro e w1 ⟨hb,rfl,hh,hb1⟩;have hle:=hh.le;have HH:=Lib.hid hh;clear hh;have hal:Below w1.heap.size w1 (w1.alloc (.cells #[.pointer p,.slice none 0 0,.slice none 0 0,.pointer (some ⟨hb,0,none⟩),.pointer q] 85)):=(Below.refl _ _).alloc (Nat.le_refl _) _;have HA:Hid (AgAt (w1.alloc (.cells #[.pointer p,.slice none 0 0,.slice none 0 0,.pointer (some ⟨hb,0,none⟩),.pointer q] 85)) w.heap.size hb w1.heap.size (.pointer p) (.pointer q) (.slice none 0 0) (.slice none 0 0) [] emptyS):=
  ⟨hb1.size,heap_alloc_new _ _,RulesOwn.nil _ _,rfl,WOwn.nil _ _,HH.out.below hal⟩
 have hb2:=hb1.trans (hal.mono hb1.size);clear hal;go_wp2_with fail;go_ret;exact ⟨_,_,rfl,hle,HA,hb2⟩
theorem shopNew_any (B nb tn:Nat) (n:NetB) (w:World) (h:NetIs w B nb n tn) (hBw:B≤w.heap.size):
  Calls Tryz.prog 14 #[.pointer (some ⟨nb,0,none⟩)] w fun e w'=>∃sb,e=.returned (.tuple #[.pointer (some ⟨sb,0,none⟩),.nilIface])∧Hid (ProgIs w' B nb sb n emptyS ⟨[],false,-1⟩ tn)∧Below w.heap.size w w':=by
 have C:=Lib.hid (newDisk_any ⟨#[]⟩ w (Nat.zero_le _));have HN:=Lib.hid h;have hnw:=h.lt;clear h;go_enter Tryz.func14,Tryz.ntmps14;go_wp2_with fail;refine C.out.mono ?_;clear C;rintro e w1 ⟨tb,rfl,hd,hb1⟩;have HT:Hid (TapeIs w1 B tb ⟨[],false,-1⟩):=TapeIs.low (B:=w.heap.size) ⟨hd,Nat.zero_le _,by show (-1:Int)≤-1∧(-1:Int)≤_;omega⟩ hBw;have C:=Lib.hid (shopEmpty_any (some ⟨nb,0,none⟩) (some ⟨tb,0,none⟩) w1);clear hd;go_wp2_with fail;refine C.out.mono ?_;clear C;rintro e w2 ⟨hb,sb,rfl,hle,HA,hb2⟩;have hs1:=hb1.size;have HP:Hid (ProgIs w2 B nb sb n emptyS ⟨[],false,-1⟩ tn):=
  ⟨hb,tb,_,_,_,HA.out.prog (Nat.le_trans hBw hs1) (HN.out.below (hb1.trans (hb2.mono hs1))) (HT.out.below hb2) (by omega)⟩
 have hb3:=hb1.trans (hb2.mono hs1);go_wp2_with fail;go_ret2;exact ⟨_,rfl,HP,hb3⟩
theorem shopTape_any {w:World} {B nb hb tb sb tn:Nat} {rv lv:Value} {rl:List RuleB} {n:NetB} {S:ShopS} {t:TapeS} (h:ProgAt w B nb hb tb sb rv lv rl n S t tn):
  Calls Tryz.prog 95 #[.pointer (some ⟨sb,0,none⟩)] w fun e w'=>e=.returned (.pointer (some ⟨tb,0,none⟩))∧w=w':=by
 obtain ⟨_,_,_,_,c4⟩:=h.cells;clear h;go_enter Tryz.func95,Tryz.ntmps95;go_wp2_with fail;go_ret;exact ⟨rfl,rfl⟩
theorem shopLock_any {w:World} {B nb hb tb sb tn:Nat} {rv lv:Value} {rl:List RuleB} {n:NetB} {S:ShopS} {t:TapeS} (h:ProgAt w B nb hb tb sb rv lv rl n S t tn) (hl:S.lock.length≤10000):
  Calls Tryz.prog 92 #[.pointer (some ⟨sb,0,none⟩)] w fun e w'=>(∃v,e=.returned v∧Hid (WOwn w' w.heap.size v S.lock))∧Below w.heap.size w w':=by
 obtain ⟨_,_,c2,_,_⟩:=h.cells;have C:=Lib.hid (cloneWants_any lv S.lock w hl h.lock.arg);clear h;go_enter Tryz.func92,Tryz.ntmps92;go_wp2_with fail;refine C.out.mono ?_;clear C;rintro e w1 ⟨⟨v,rfl,HV⟩,hb1⟩;go_wp2_with fail;go_ret;exact ⟨⟨_,rfl,HV⟩,hb1⟩
theorem shopHeld_any {w:World} {B nb hb tb sb tn:Nat} {rv lv:Value} {rl:List RuleB} {n:NetB} {S:ShopS} {t:TapeS} (h:ProgAt w B nb hb tb sb rv lv rl n S t tn) (hBw:B≤w.heap.size):
  Calls Tryz.prog 88 #[.pointer (some ⟨sb,0,none⟩)] w (HCopyPost B S.held w):=by
 obtain ⟨_,_,_,c3,_⟩:=h.cells;have C:=Lib.hid (heldCopy_any B hb S.held w h.held hBw);clear h;go_enter Tryz.func88,Tryz.ntmps88;go_wp2_with fail;refine C.out.mono ?_;clear C;rintro e w1 ⟨⟨b,rfl,HV,hle⟩,hb1⟩;go_wp2_with fail;go_ret;exact ⟨⟨_,rfl,HV,hle⟩,hb1⟩
theorem copied_any (f:ByteArray) (tv:Value) (ts:List ByteArray) (w:World) (hn:ts.length≤1000000) (hv:RowP w tv ts):
  Calls Tryz.prog 31 #[.agg #[.string f,tv]] w fun e w'=>(∃ov,e=.returned (.agg #[.string f,ov])∧Hid (w'.ownsRow w.heap.size 9 1 ov ts.length (ts.map Value.string)))∧Below w.heap.size w w':=by
 obtain ⟨ao,cap,rfl,_⟩:=id hv;obtain ⟨px,hpx⟩:∃px,w.heap.size=px:=⟨_,rfl⟩;obtain ⟨wx,hwx⟩:∃wx,w.alloc (.cells #[.string f,.slice ao ts.length cap] 63)=wx:=⟨_,rfl⟩;have hbx:Below w.heap.size w wx:=by rw [←hwx];exact (Below.refl _ _).alloc (Nat.le_refl _) _
 have hX:wx.heap[px]? =some (.cells #[.string f,.slice ao ts.length cap] 63 (0,0)):=by rw [←hwx,←hpx];exact heap_alloc_new _ _
 have hxs:wx.heap.size=px+1:=by rw [←hwx,←hpx,World.size_alloc]
 obtain ⟨pr,hpr⟩:∃pr,px+1=pr:=⟨_,rfl⟩;obtain ⟨wr,hwr⟩:∃wr,wx.alloc (.cells #[.string ⟨#[]⟩,.slice none 0 0] 63)=wr:=⟨_,rfl⟩;have hal:Below wx.heap.size wx wr:=by rw [←hwr];exact (Below.refl _ _).alloc (Nat.le_refl _) _
 have hR:wr.heap[pr]? =some (.cells #[.string ⟨#[]⟩,.slice none 0 0] 63 (0,0)):=by rw [←hwr,←hpr,←hxs];exact heap_alloc_new _ _
 have hXr:wr.heap[px]? =some (.cells #[.string f,.slice ao ts.length cap] 63 (0,0)):=(hal.block px (by omega)).trans hX;have hbr:=hbx.trans (hal.mono hbx.size);have C:=Lib.hid (cloneStrs_any (.slice ao ts.length cap) ts wr hn (hv.ext hbr));have c0:wr.cell? ⟨px,0,none⟩=some (.string f):=by rw [Lib.cell_of_heap hXr];rfl
 have c1:wr.cell? ⟨px,1,none⟩=some (.slice ao ts.length cap):=by rw [Lib.cell_of_heap hXr];rfl
 have HX:=Lib.hid hXr;have HR:=Lib.hid hR;have HWX:=Lib.hid hwx;have HPX:=Lib.hid hpx;have HWR:=Lib.hid hwr;have HPR:=Lib.hid hpr;have HBR:=Lib.hid hbr;have hle:w.heap.size≤px:=by rw [hpx];exact Nat.le_refl _
 have hlr:w.heap.size≤pr:=by omega
 have hne:pr≠px:=by omega
 clear hv hwx hpx hX hxs hwr hpr hal hR hXr hbr hbx;go_enter Tryz.func31,Tryz.ntmps31;go_upto_region 1 with fail
 rw [HWX.out,HPX.out,HWR.out,HPR.out];go_wp2_with fail;refine C.out.mono ?_;clear C c0 c1;rintro e w1 ⟨⟨ov,rfl,HO⟩,hb1⟩;obtain ⟨oa,oc,rfl⟩:=row_shape HO.out;have hX1:w1.heap[px]? =some (.cells #[.string f,.slice ao ts.length cap] 63 (0,0)):=(hb1.block px (Array.getElem?_eq_some_iff.1 HX.out).1).trans HX.out;have hR1:w1.heap[pr]? =some (.cells #[.string ⟨#[]⟩,.slice none 0 0] 63 (0,0)):=(hb1.block pr (Array.getElem?_eq_some_iff.1 HR.out).1).trans HR.out;have f1:w1.frozen? ⟨px,1,none⟩=false:=Lib.frozen_of_heap hX1 1;have e1:w1.cell? ⟨px,1,none⟩=some (.slice ao ts.length cap):=by rw [Lib.cell_of_heap hX1];rfl
 obtain ⟨w2,hw2⟩:∃w2,w1.setCell ⟨px,1,none⟩ (.slice oa ts.length oc)=w2:=⟨_,rfl⟩;have hX2:w2.heap[px]? =some (.cells #[.string f,.slice oa ts.length oc] 63 (0,0)):=by rw [←hw2];simp [World.setCell,Array.getElem?_modify,hX1]
 have hR2:w2.heap[pr]? =some (.cells #[.string ⟨#[]⟩,.slice none 0 0] 63 (0,0)):=by rw [←hw2,Below.heap_setCell _ _ _ _ hne];exact hR1
 have c0:w2.cell? ⟨px,0,none⟩=some (.string f):=by rw [Lib.cell_of_heap hX2];rfl
 have c1:w2.cell? ⟨px,1,none⟩=some (.slice oa ts.length oc):=by rw [Lib.cell_of_heap hX2];rfl
 have d0:w2.cell? ⟨pr,0,none⟩=some (.string ⟨#[]⟩):=by rw [Lib.cell_of_heap hR2];rfl
 have d1:w2.cell? ⟨pr,1,none⟩=some (.slice none 0 0):=by rw [Lib.cell_of_heap hR2];rfl
 have g0:w2.frozen? ⟨pr,0,none⟩=false:=Lib.frozen_of_heap hR2 0;have g1:w2.frozen? ⟨pr,1,none⟩=false:=Lib.frozen_of_heap hR2 1;have hR3:((w2.setCell ⟨pr,0,none⟩ (.string f)).setCell ⟨pr,1,none⟩ (.slice oa ts.length oc)).heap[pr]? =some (.cells #[.string f,.slice oa ts.length oc] 63 (0,0)):=by simp [World.setCell,Array.getElem?_modify,hR2]
 have S0:Hid (((w2.setCell ⟨pr,0,none⟩ (.string f)).setCell ⟨pr,1,none⟩ (.slice oa ts.length oc)).cell? ⟨pr,0,none⟩=some (.string f)):=by show _=_;rw [Lib.cell_of_heap hR3];rfl
 have S1:Hid (((w2.setCell ⟨pr,0,none⟩ (.string f)).setCell ⟨pr,1,none⟩ (.slice oa ts.length oc)).cell? ⟨pr,1,none⟩=some (.slice oa ts.length oc)):=by show _=_;rw [Lib.cell_of_heap hR3];rfl
 have hO2:w2.ownsRow wr.heap.size 9 1 (.slice oa ts.length oc) ts.length (ts.map Value.string):=by rw [←hw2];exact HO.out.kept (grownBy_set w1 px 1 _) (own_not HO.out hX1 (by decide))
 have hk3:Keeps (fun o=>∃cs fz,o=.cells cs 63 fz) w.heap.size w2 ((w2.setCell ⟨pr,0,none⟩ (.string f)).setCell ⟨pr,1,none⟩ (.slice oa ts.length oc)):=by
  have hs2:w.heap.size≤w2.heap.size:=by rw [←hw2];have h1:=HBR.out.size;have h2:=hb1.size;simp [World.setCell];omega
  have k1:=Keeps.one (K:=fun o=>∃cs fz,o=.cells cs 63 fz) (grown_set w2 pr 0 (.string f)) hlr hs2 hR2 ⟨_,_,rfl⟩;have hR4:(w2.setCell ⟨pr,0,none⟩ (.string f)).heap[pr]? =some (.cells #[.string f,.slice none 0 0] 63 (0,0)):=by simp [World.setCell,Array.getElem?_modify,hR2]
  exact k1.trans (Keeps.one (grown_set _ pr 1 _) hlr (Nat.le_trans hs2 k1.below.size) hR4 ⟨_,_,rfl⟩)
 have HO3:Hid (((w2.setCell ⟨pr,0,none⟩ (.string f)).setCell ⟨pr,1,none⟩ (.slice oa ts.length oc)).ownsRow w.heap.size 9 1 (.slice oa ts.length oc) ts.length (ts.map Value.string)):=
  own_mono (hk3.owns hO2 (fun cs ⟨_,_,h⟩=>by injection h with _ h _;exact absurd h (by decide))) HBR.out.size
 have hb2:Below w.heap.size w w2:=by rw [←hw2];exact (HBR.out.trans (hb1.mono HBR.out.size)).setCell (p:=⟨px,1,none⟩) hle _
 have HB3:=Lib.hid (hb2.trans hk3.below);have HW2:=Lib.hid hw2;clear hw2 hX1 hR1 hX2 hR2 hR3 hO2 hk3 hb2 hb1 HO;go_upto_region 2 with fail
 rw [HW2.out];clear e1 f1;go_wp2_with fail;refine bodyPost_ret (v:= .agg #[.string f,.slice oa ts.length oc]) ?_ rfl ⟨⟨_,rfl,HO3⟩,HB3.out⟩;simp [results,Tryz.results31,go_sem,S0.out,S1.out]
end Go.Proofs.YtaabgmbjmfjdjaaGreatDoor
