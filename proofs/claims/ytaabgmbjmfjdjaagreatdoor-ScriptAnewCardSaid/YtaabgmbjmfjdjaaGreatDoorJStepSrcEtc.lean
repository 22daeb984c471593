import Derived.Test.YtaabgmbjmfjdjaaGreatDoorJShopTurnsEtc
import Derived.Test.YtaabgmbjmfjdjaaGreatDoorJRowedEtc
import Derived.Test.YtaabgmbjmfjdjaaGreatDoorJRefWaysEtc
import Derived.Deep.RegionHeld3
import Derived.Test.YtaabgmbjmfjdjaaGreatDoorJNetPlainEtc
import Derived.Test.YtaabgmbjmfjdjaaGreatDoorJShelf
import Derived.Laws.AppendOwnNone
import Derived.Test.YtaabgmbjmfjdjaaGreatDoorJRefTryEtc
import Derived.Laws.NewBlocks
import Derived.Lib.SliceRun
import Derived.Test.YtaabgmbjmfjdjaaGreatDoorJLockSetsEtc
import Derived.Test.YtaabgmbjmfjdjaaGreatDoorJPackedUpEtc
import Derived.Test.YtaabgmbjmfjdjaaGreatDoorJLockUpEtc
namespace Go.Proofs.YtaabgmbjmfjdjaaGreatDoor
open Go Go.RowKit
set_option maxHeartbeats 8000000
set_option maxRecDepth 100000
def RuleRow (o:Obj):Prop:=∃cs fz,o=.cells cs 63 fz
theorem ku_map (es:Array MapEntry) (c:Nat):¬RuleRow (.map es c):=fun ⟨_,_,h⟩=>by cases h
theorem ku_other (T:TypeId) (h1:T≠63) (cs:Array Value) (fz:Nat×Nat):¬RuleRow (.cells cs T fz):=fun ⟨_,_,h⟩=>by injection h with _ h _;exact h1 h
theorem rules_grown {w w':World} {B n:Nat} {v:Value} {xs:List Value} (h:w.ownsRow B 63 2 v n xs) (hg:w.grownBy w' v.ownBlock) (hB:B≤w.heap.size):Keeps RuleRow B w w':=by
 refine ⟨(Below.refl B w).grown hg hB (fun k hk=>(h.lt k hk).1),fun k o hk ho=>?_⟩;rw [hg.block k (Array.getElem?_eq_some_iff.1 hk).1 (fun e=>ho ?_)];· exact hk
 rcases h.2 with ⟨rfl,_⟩|⟨g,cap,cur,rfl,_,hgg,_⟩
 ·simp [Value.ownBlock] at e
 ·simp only [Value.ownBlock,Option.some.injEq] at e;subst e;rw [hgg] at hk;injection hk with hk
  exact ⟨_,_,hk.symm⟩
theorem step_append_rule {w:World} {ops:Array Oper} {o:Oper} {a:Act} {K:Act→World→Prop} {Q:Exit→Act→World→Prop} {E:Prop} (hgd:o.guard=none) (s x:Operand)
  (ho:o.op=Op.call {callee:=Callee.builtin Builtin.append,args:=#[s,x],argTypes:=#[82,82]})
  (base:Nat) (v:Value) (k:Nat) (xs:List Value) (hs:a.eval s=v) (hown:w.ownsRow base 63 2 v k xs) (f:ByteArray) (tv:Value) (ht:tv.oneCell'=true) (g:Nat) (hx:a.eval x=.slice (some ⟨g,0,none⟩) 1 1)
  (hc0:w.cell? ⟨g,0,none⟩=some (.string f)) (hc1:w.cell? ⟨g,1,none⟩=some tv) (hlen:k≤100000) (hbase:base≤w.heap.size)
  (hK:∀v' w',Hid (w'.ownsRow base 63 2 v' (k+1) (xs++[.string f,tv]))→Hid (w.grownBy w' v.ownBlock)→K (a.put o.dst v') w'):
  if Region.wanted o (yielded ops a.tmps)=true then Oper.wp Tryz.prog o a w K Q else E:=by
 obtain ⟨i0,hi0,hz0,hz1,hz2⟩:=info_parts Tryz.infoR;refine step_append_own hgd s x 82 ho base 63 i0 (.agg #[.string ⟨#[]⟩,.slice none 0 0]) 2 40 Tryz.underlying82 hi0 hz0 hz1 hz2 rfl (by decide) v k xs hs hown ⟨g,0,none⟩ 1 1 [.string f,tv] hx rfl ?_ ?_ ?_ ?_ hbase ?_
 ·intro j u hj
  match j,hj with
  |0,hj=>simp at hj;subst hj;exact hc0
  |1,hj=>simp at hj;subst hj;exact hc1
  |j+2,hj=>simp at hj
 ·intro u hu;simp at hu;rcases hu with rfl|rfl
  ·rfl
  ·exact ht
 ·rw [maxLen_eq];omega
 ·omega
 ·intro v' w' h1 h2;exact hK v' w' h1 h2
theorem row_cell {w:World} {base:Nat} {e:TypeId} {size:Nat} {v:Value} {n:Nat} {xs:List Value} (h:w.ownsRow base e size v n xs):v.oneCell'=true:=by
 obtain ⟨a,c,rfl⟩:=row_shape h;rfl
theorem rule_new (w:World) (f:ByteArray) (tv:Value):(w.alloc (.cells #[.string f,tv] 63)).cell? ⟨w.heap.size,0,none⟩=some (.string f)∧(w.alloc (.cells #[.string f,tv] 63)).cell? ⟨w.heap.size,1,none⟩=some tv:=
 ⟨by rw [World.cell?_alloc_at _ _ _ _ rfl];rfl,by rw [World.cell?_alloc_at _ _ _ _ rfl];rfl⟩
theorem strs_behind (g n:Nat) (hn:1≤n):∃rv,(∀W:World,(Instr.slice 22 (.slice (some ⟨g,0,none⟩) n n) (some (.int .i64 1)) none none).run Tryz.prog W=.ok rv W)∧
  (∃a,rv=.slice a (n-1) (n-1))∧∀(W:World) (z:ByteArray) (zt:List ByteArray),zt.length+1=n→n≤maxLen→StrsAt W g (z::zt)→RowP W rv zt:=by
 refine ⟨.slice (if n=1 then some ⟨g,0,none⟩ else some ⟨g,1,none⟩) (n-1) (n-1),fun W=>?_,⟨_,rfl⟩,fun W z zt hz hm hs=>?_⟩
 ·have h:=run_slice_l (P:=Tryz.prog) W 22 (some ⟨g,0,none⟩) n n (by kernel_rfl) .i64 ((1:Nat):Int) (by omega) (by omega);refine Eq.trans h ?_;by_cases h1:n=1<;>simp [sliced,go_sem,h1]
 ·subst hz;refine ⟨_,zt.length,rfl,Nat.le_refl _,by omega,?_,fun i hi=>?_⟩
  ·intro h;split at h<;>cases h
  ·rw [if_neg (by omega)];refine ⟨g,1,rfl,hs.1,fun k hk=>?_⟩;have:=hs.2 (k+1) (by simp;omega);rw [Nat.add_comm 1 k];simpa using this
section
variable {w w' w2:World} {B hb sb:Nat} {np tp rv lv:Value} {rl:List RuleB} {S:ShopS}
theorem AgAt.ruled2 {l:List RuleB} {x:Value} (h:AgAt w B hb sb np tp rv lv rl S) (hk:Keeps RuleRow B w w') (hb2:Below w'.heap.size w' w2) (hx:RulesOwn w' B x l) (hBw:B≤w.heap.size):
  AgAt (w2.setCell ⟨sb,1,none⟩ x) B hb sb np tp x lv l {S with rules:=l.map ruleOf}∧w2.cell? ⟨sb,0,none⟩=some np∧w2.cell? ⟨sb,1,none⟩=some rv∧w2.frozen? ⟨sb,1,none⟩=false:=by
 have hs1:=hk.keep sb _ h.shop (ku_other _ (by decide) _ _);have hs2:w2.heap[sb]? =some (.cells #[np,rv,lv,.pointer (some ⟨hb,0,none⟩),tp] 85 (0,0)):=(hb2.block sb (Array.getElem?_eq_some_iff.1 hs1).1).trans hs1;have hB2:B≤w2.heap.size:=Nat.le_trans hBw (Nat.le_trans hk.below.size hb2.size);have hk3:Keeps ShopRow B w2 (w2.setCell ⟨sb,1,none⟩ x):=Keeps.one (grown_set w2 sb 1 x) h.hsb hB2 hs2 ⟨_,_,rfl⟩;have hl2:WOwn w2 B lv S.lock:=WOwn.ext (hk.owns h.lock (fun cs=>ku_other _ (by decide) cs _)) hb2;have hh2:HeldIs w2 B hb S.held:=(h.held.keeps hk ku_map (ku_other _ (by decide)) (fun cs=>ku_other _ (by decide) cs _) (fun cs=>ku_other _ (by decide) cs _)).below hb2;refine ⟨⟨h.hsb,(ag_set hs2 x).1,(hx.ext hb2).keeps hk3 (ks_other _ (by decide)) (ks_other _ (by decide)),rfl,hk3.owns hl2 (fun cs=>ks_other _ (by decide) cs _),
  hh2.keeps hk3 ks_map (ks_other _ (by decide)) (fun cs=>ks_other _ (by decide) cs _) (fun cs=>ks_other _ (by decide) cs _)⟩,by rw [Lib.cell_of_heap hs2];rfl,by rw [Lib.cell_of_heap hs2];rfl,Lib.frozen_of_heap hs2 1⟩
end
def ruledS (S:ShopS) (l:List (List UInt8)):Nat×ShopS:=
 if (rulesEr (S.rules++[(l.headD [],l.tail)])).code≠0 then ((rulesEr (S.rules++[(l.headD [],l.tail)])).code,S)
 else (0,{S with rules:=S.rules++[(l.headD [],l.tail)]})
theorem ruledS_no {S:ShopS} {l:List RuleB} {r:RuleB} (hl:l.map ruleOf=S.rules) (h:(rulesEr ((l++[r]).map ruleOf)).code≠0):ruledS S (bl r.1::r.2.map bl)=((rulesEr ((l++[r]).map ruleOf)).code,S):=by
 have e:S.rules++[((bl r.1::r.2.map bl).headD [],(bl r.1::r.2.map bl).tail)]=(l++[r]).map ruleOf:=by rw [←hl,List.map_append];rfl
 unfold ruledS;rw [e,if_pos h]
theorem ruledS_ok {S:ShopS} {l:List RuleB} {r:RuleB} (hl:l.map ruleOf=S.rules) (h:(rulesEr ((l++[r]).map ruleOf)).code=0):ruledS S (bl r.1::r.2.map bl)=(0,{S with rules:=(l++[r]).map ruleOf}):=by
 have e:S.rules++[((bl r.1::r.2.map bl).headD [],(bl r.1::r.2.map bl).tail)]=(l++[r]).map ruleOf:=by rw [←hl,List.map_append];rfl
 unfold ruledS;rw [e,if_neg (by rw [h];simp)]
theorem shopRuled_any {E:Nat→Addr} (B hb sb:Nat) (p q:Option Addr) (S:ShopS) (rv lv:Value) (rl:List RuleB) (g:Nat) (zs:List ByteArray) (w:World) (hA:AgAt w B hb sb (.pointer p) (.pointer q) rv lv rl S) (hok:OpOk S) (hz0:0<zs.length) (hsz:∀z∈zs,z.size≤30000) (hzn:zs.length≤30000) (hst:StrsAt w g zs) (hne:rv.ownBlock≠some g) (hBw:B≤w.heap.size) (hE:∀W,Below B w W→FtEnv E W):
  Calls Tryz.prog 175 #[.pointer (some ⟨sb,0,none⟩),.slice (some ⟨g,0,none⟩) zs.length zs.length] w (AgPost E B hb sb (.pointer p) (.pointer q) (ruledS S (zs.map bl)) w):=by
 obtain ⟨z0,zt,rfl⟩:∃z0 zt,zs=z0::zt:=match zs,hz0 with|z::t,_=>⟨z,t,rfl⟩
 obtain ⟨hfew,hsm⟩:=rules_small (l:=rl) (by rw [hA.ruled];exact hok.rules);obtain ⟨n,hn⟩:∃n,(z0::zt).length=n:=⟨_,rfl⟩;have hn1:zt.length+1=n:=hn;have hmx:n≤maxLen:=by rw [maxLen_eq];omega
 have hzt30:zt.length≤30000:=by omega
 obtain ⟨tv,hsl,⟨ta,rfl⟩,htl⟩:=strs_behind g n (by omega);obtain ⟨c0,c1,c2,c3,c4⟩:=hA.cells;have i0:w.cell? ⟨g,0,none⟩=some (.string z0):=hst.2 0 (by simp);have hsbl:sb<w.heap.size:=(Array.getElem?_eq_some_iff.1 hA.shop).1;have KS:Hid (∀W,Below w.heap.size w W→W.cell? ⟨sb,1,none⟩=some rv∧W.cell? ⟨g,0,none⟩=some (.string z0)):=fun W hW=>⟨(hW.cell (p:=⟨sb,1,none⟩) hsbl).trans c1,(hW.cell (p:=⟨g,0,none⟩) hst.1).trans i0⟩
 have C:Hid (∀W,Below w.heap.size w W→Calls Tryz.prog 65 #[.slice ta (n-1) (n-1)] W fun e w'=>(∃ov,e=.returned ov∧Hid (w'.ownsRow W.heap.size 9 1 ov zt.length (zt.map Value.string)))∧Below W.heap.size W w'):=
  fun W hW=>cloneStrs_any _ zt W (by omega) (htl W z0 zt hn1 hmx (hst.ext hW))
 obtain ⟨tvs,t1,t2,t3⟩:=hA.rules;have HRU:=Lib.hid hA.ruled;have HA:=Lib.hid hA;have HR:Hid (∀W,Below w.heap.size w W→W.ownsRow B 63 2 rv rl.length (flatR rl tvs)):=fun W hW=>owns_below t2 hW
 have HR3:Hid (∀W,Below w.heap.size w W→∀j,(hj:j<rl.length)→∃tv,tvs[j]? =some tv∧W.ownsRow B 9 1 tv rl[j].2.length (rl[j].2.map Value.string)):=fun W hW j hj=>by
  obtain ⟨tv,h1,h2⟩:=t3 j hj;exact ⟨tv,h1,owns_below h2 hW⟩
 have KD:Hid (∀W W2,Below w.heap.size w W→W.grownBy W2 rv.ownBlock→W2.cell? ⟨sb,1,none⟩=some rv∧W2.cell? ⟨g,0,none⟩=some (.string z0)):=fun W W2 hW hG=>by
  have hk:=rules_grown (HR.out W hW) hG (Nat.le_trans hBw hW.size);have hs:=hk.keep sb _ ((hW.block sb hsbl).trans HA.out.shop) (ku_other _ (by decide) _ _);have hg2:=hG.block g (Nat.lt_of_lt_of_le hst.1 hW.size) (fun e=>hne e.symm);refine ⟨by rw [Lib.cell_of_heap hs];rfl,?_⟩;rw [World.cell?_of_block (w:=W) (a:=⟨g,0,none⟩) hg2];exact (KS.out W hW).2
 have HE:=Lib.hid hE;have HSM:=Lib.hid hsm;have HSZ:=Lib.hid hsz;have HT1:=Lib.hid t1;have hdr:Below w.heap.size w w.drew:=below_drewN _ _ 1;have hlt:(0:Int)<(n:Int):=by omega
 have hlt0:0<n:=by omega
 rw [hn];clear t1 t2 t3 hA hE hsm hsz htl hst hok c0 c1 c2 c3 c4 i0 hn hmx hz0;go_enter Tryz.func175,Tryz.ntmps175;go_wp2_with fail;go_region_held3 (fun W:World=>W.cell? ⟨sb,1,none⟩=some rv∧W.cell? ⟨g,0,none⟩=some (.string z0)) (first|exact KS.out _ hdr|exact KS.out _ hb1w|exact KS.out _ (hb1w.alloc hb1w.size _)|exact d8)
  (first
   |(go_at_call 65;refine (C.out _ hdr).mono ?_;rintro e w1 ⟨⟨ov,rfl,HO⟩,hb1⟩;obtain ⟨oa,oc,rfl⟩:=row_shape HO.out;have hb1w:=hdr.trans (hb1.mono hdr.size))
   |(refine step_append_rule (by rfl) _ _ (by rfl) B rv rl.length (flatR rl tvs) (by rfl) (HR.out _ (hb1w.alloc hb1w.size _)) z0 (.slice oa zt.length oc) rfl w1.heap.size (by rfl) (rule_new w1 z0 _).1 (rule_new w1 z0 _).2 (by omega) (Nat.le_trans hBw (hb1w.alloc hb1w.size _).size) ?_;intro v8 w8 HO8 HG8;have d8:=KD.out _ w8 (hb1w.alloc hb1w.size _) HG8.out)
   |fail)
 all_goals
  obtain ⟨a8,k8,rfl⟩:=row_shape HO8.out;have hbA:Below w.heap.size w (w1.alloc (.cells #[.string z0,.slice oa zt.length oc] 63)):=hb1w.alloc hb1w.size _;have hal:Below w1.heap.size w1 (w1.alloc (.cells #[.string z0,.slice oa zt.length oc] 63)):=(Below.refl _ _).alloc (Nat.le_refl _) _;have hR8:RulesOwn w8 B (.slice a8 (rl.length+1) k8) (rl++[(z0,zt)]):=RulesOwn.snoc (r:=(z0,zt)) HT1.out (HR.out _ hbA) (HR3.out _ hbA) (own_mono (owns_below HO.out hal) hBw) HO8.out HG8.out;have HK8:Keeps RuleRow B w w8:=(Keeps.of hbA hBw).trans (rules_grown (HR.out _ hbA) HG8.out (Nat.le_trans hBw hbA.size));have HFA:∀r∈rl++[(z0,zt)],Fair r:=fun r hr=>by
   rcases List.mem_append.1 hr with hr|hr
   ·exact (HSM.out r hr).fair
   ·obtain rfl:=List.mem_singleton.1 hr;exact ⟨HSZ.out z0 (by simp),by show zt.length≤30000;omega,fun t ht=>HSZ.out t (by simp [ht])⟩
  have CM:=mirrorCheck_any _ (rl++[(z0,zt)]) w8 (by simp;omega) HFA hR8.row (HE.out w8 HK8.below).2;have h1:=@ruledS_no S rl (z0,zt) HRU.out;have h2:=@ruledS_ok S rl (z0,zt) HRU.out;unfold CheckPost at CM;obtain ⟨er,her⟩:∃er,rulesEr ((rl++[(z0,zt)]).map ruleOf)=er:=⟨_,rfl⟩;rw [her] at CM h1 h2;have HC:=Lib.hid CM;have H1:=Lib.hid h1;have H2:=Lib.hid h2;have HR9:=Lib.hid hR8;have HK9:=Lib.hid HK8;clear her CM h1 h2 HFA HK8 hR8 hbA hal HO HO8 HG8 d8 hb1 hb1w KS KD C HR HR3 hsl HT1;go_wp2_with fail;refine HC.out.mono ?_;clear HC;rintro e w9 ⟨⟨ev,rfl,HI⟩,hb9⟩;obtain ⟨hA9,c0,c1,f1⟩:=HA.out.ruled2 HK9.out hb9 HR9.out hBw;have hB8:B≤w8.heap.size:=Nat.le_trans hBw HK9.out.below.size;have hbz:=HK9.out.below.trans (hb9.mono hB8);have HA9:=Lib.hid hA9;clear hA9 hb9;by_cases hz:er.code=0
  ·obtain rfl:ev=.nilIface:=HI.out.zero hz;have HY:=Lib.hid (H2.out hz);have hbs:Below B w (w9.setCell ⟨sb,1,none⟩ (.slice a8 (rl.length+1) k8)):=hbz.setCell (p:=⟨sb,1,none⟩) HA.out.hsb _;clear hz HI H1 H2;go_wp2_with fail;go_ret;show AgPost E B hb sb (.pointer p) (.pointer q) (ruledS S (bl z0::zt.map bl)) w _ _;rw [HY.out];exact ⟨⟨_,⟨0,none⟩,rfl,.inl ⟨rfl,rfl⟩,rfl⟩,fun _=>⟨_,_,_,HA9.out⟩,hbs⟩
  ·have HY:=Lib.hid (H1.out hz);have HZ:=Lib.hid hz;obtain ⟨ty,y,rfl⟩:=HI.out.some_inv hz;clear hz H1 H2 f1 c0 c1;go_wp2_with fail;go_ret;show AgPost E B hb sb (.pointer p) (.pointer q) (ruledS S (bl z0::zt.map bl)) w _ _;rw [HY.out];exact ⟨⟨_,er,rfl,HI,rfl⟩,fun h=>absurd h HZ.out,hbz⟩
theorem step_append_src {P:Program} {ops:Array Oper} {o:Oper} {a:Act} {w:World} {K:Act→World→Prop} {Q:Exit→Act→World→Prop} {E:Prop}
  (hg:o.guard=none) (s x:Operand) (t:TypeId) (hop:o.op=Op.call {callee:=Callee.builtin Builtin.append,args:=#[s,x],argTypes:=#[t,t]})
  (base:Nat) (e:TypeId) (i:TypeInfo) (z:Value) (size bytes:Nat) (h1:P.underlying t=some (.slice e)) (h2:P.info? e=some i) (h3:i.zero=some z) (h4:i.size=size) (h5:i.bytes=bytes) (h6:z.cells.size=size) (h7:0<size)
  (v:Value) (k:Nat) (xs:List Value) (hs:a.eval s=v) (hown:w.ownsRow base e size v k xs) (sv:Value) (m:Nat) (news:List Value) (hx:a.eval x=sv) (hsrc:Srcs w size sv m news)
  (b1:k+m≤maxLen) (b2:(k+m)*bytes≤140737488355328) (b3:base≤w.heap.size)
  (hK:∀v' w',w'.ownsRow base e size v' (k+m) (xs++news)→w.grownBy w' v.ownBlock→K (a.put o.dst v') w'):
  if Region.wanted o (yielded ops a.tmps)=true then Oper.wp P o a w K Q else E:=by
 rcases hsrc with ⟨e1,e2,e3⟩|⟨ad,c,e1,e2,e3,e4⟩
 ·subst e2 e3;have hw:Region.wanted o (yielded ops a.tmps)=true:=by simp [Region.wanted,hg]
  rw [if_pos hw];have hrun:=run_append_owned_none (P:=P) (w:=w) base t o.type e i size h1 h2 v k xs hown;unfold Oper.wp;simp [execOp,hop,resolve,invoke,builtin,hs,hx,e1,hrun,Result.andThen];exact hK v w (by rw [List.append_nil];exact hown) ⟨rfl,rfl,rfl,Nat.le_refl _,fun _ _ _=>rfl⟩
 ·exact step_append_own hg s x t hop base e i z size bytes h1 h2 h3 h4 h5 h6 h7 v k xs hs hown ad m c news (hx.trans e1) e2 e3 e4 b1 b2 b3 hK
theorem RowP.srcs {w:World} {v:Value} {l:List ByteArray} (h:RowP w v l):Srcs w 1 v l.length (l.map Value.string):=by
 obtain ⟨ao,cap,rfl,h1,h2,h3,h4⟩:=h
 cases ao with
 |none=>
  obtain rfl:=h3 rfl;have h0:l=[]:=List.eq_nil_of_length_eq_zero (Nat.le_zero.1 h1);subst h0;exact .inl ⟨rfl,rfl,rfl⟩
 |some ad=>
  refine .inr ⟨ad,cap,rfl,by simp,fun j u hj=>?_,fun u hu=>by obtain ⟨y,_,rfl⟩:=List.mem_map.1 hu;rfl⟩;rw [List.getElem?_map] at hj
  cases ht2:l[j]? with
  |none=>rw [ht2] at hj;cases hj
  |some t=>
   rw [ht2] at hj;obtain rfl:=Option.some.inj hj;obtain ⟨hj2,ht3⟩:=List.getElem?_eq_some_iff.1 ht2;obtain ⟨b2,off2,e,hbl2,hc2⟩:=h4 j hj2;obtain rfl:=Option.some.inj e;rw [Addr.add_lit];have:=hc2 j hj2;rw [ht3] at this;exact this
theorem joinSep_len (sep:ByteArray) (hs:sep.size≤10):∀l:List ByteArray,(∀z∈l,z.size≤1000000)→((bl sep).intercalate (l.map bl):List UInt8).length≤l.length*1000010
 | [],_=>by simp [List.intercalate]
 | [x],h=>by have hx:=h x (by simp);simp [List.intercalate,bl_length];omega
 |x::y::r,h=>by
  have hx:=h x (by simp);have hr:=joinSep_len sep hs (y::r) fun z hz=>h z (List.mem_cons_of_mem _ hz)
  have e:(bl sep).intercalate ((x::y::r).map bl)=bl x++(bl sep++(bl sep).intercalate ((y::r).map bl)):=by simp [List.intercalate]
  rw [e,List.length_append,List.length_append,bl_length,bl_length];simp only [List.length_cons] at hr⊢;omega
theorem joinSep_any {W:World} {base:Nat} {v:Value} {out:List ByteArray} (sep:ByteArray) (hs:sep.size≤10) (hr:W.ownsRow base 9 1 v out.length (out.map Value.string)) (hn:out.length≤1000) (hz:∀z∈out,z.size≤1000000):
  Calls Tryz.prog 34 #[v,.string sep] W fun e w'=>(∃x:ByteArray,e=.returned (.string x)∧Hid (bl x=(bl sep).intercalate (out.map bl)))∧Below W.heap.size W w':=by
 obtain ⟨h1,⟨rfl,h3⟩|⟨g,cap,cur,rfl,h4,h5,h6,h7,h8,h9⟩⟩:=id hr
 ·have e0:out=[]:=List.eq_nil_of_length_eq_zero h3;subst e0;refine (Tryz.strings_Join_none none 0 sep W).mono ?_;rintro e w' ⟨rfl,rfl⟩;exact ⟨⟨_,rfl,rfl⟩,Below.refl _ _⟩
 ·have hlen:(Lib.join (out.map (·.data.toList)) sep.data.toList).length≤140737488355328:=by
   have:=joinSep_len sep hs out hz;show ((bl sep).intercalate (out.map bl):List UInt8).length≤_;have:=Nat.mul_le_mul_right 1000010 hn;omega
  refine (Tryz.strings_Join g 0 cap out sep W ?_ (Array.getElem?_eq_some_iff.1 h5).1 (by omega) h6 hlen).mono ?_
  ·intro j x hx;have:=hr.cells (g:=g) rfl j (.string x) (by rw [List.getElem?_map,hx];rfl);rwa [Addr.add_lit] at this
  ·rintro e w' ⟨rfl,hb⟩;exact ⟨⟨_,rfl,by show (bl sep).intercalate (out.map (·.data.toList))=_;rfl⟩,hb⟩
section
open Go.Lib
theorem cloneRules_any (base:Nat) (v:Value) (n:Nat) (xs:List Value) (w:World) (hn:n≤10000) (hx1:∀u∈xs,u.oneCell'=true) (hv:w.ownsRow base 63 2 v n xs):
  Calls Tryz.prog 30 #[v] w fun e w'=>(∃ov,e=.returned ov∧Hid (w'.ownsRow w.heap.size 63 2 ov n xs))∧Below w.heap.size w w':=by
 obtain ⟨i0,hi0,hz0,hz1,hz2⟩:=info_parts Tryz.infoR;have hq:∀(W:World) (a:Option Addr) (n c:Nat),(binOp .eql 82 (.slice a n c) (.slice none 0 0)).run Tryz.prog W=.ok (.bool a.isNone) W:=fun W a n c=>Go.Lib.run_eql_slice_nil W _ _ a n c 0 0 Tryz.underlying82
 have hlen:=hv.1;have HV:=Lib.hid hv;have HX1:=Lib.hid hx1;rcases hv.2 with ⟨rfl,rfl⟩|⟨g,cap,cur,rfl,hb,hg,hnc,hcm,_⟩
 ·have h0:xs=[]:=List.eq_nil_of_length_eq_zero (by omega);subst h0;clear HV HX1 hv hx1 hlen;go_enter Tryz.func30,Tryz.ntmps30;go_wp2_with fail;go_ret;exact ⟨⟨_,rfl,World.ownsRow_nil _ _ _ _⟩,Below.refl _ _⟩
 ·clear hv hx1 hg;go_enter Tryz.func30,Tryz.ntmps30;go_wp2_with (at_builtin;refine wpList_append_own _ rfl _ _ 82 rfl w.heap.size 63 i0 (.agg #[.string ⟨#[]⟩,.slice none 0 0]) 2 40 Tryz.underlying82 hi0 hz0 hz1 hz2 rfl (by decide) _ 0 _ rfl (World.ownsRow_made w #[] 0 (Nat.le_refl _) (Nat.zero_le _) rfl) ⟨g,0,none⟩ n cap xs rfl hlen ?c1 ?c2 ?c3 ?c4 ?c5 ?_)
  case c1=>
   intro j u hj;exact cell?_alloc_some _ (HV.out.cells (g:=g) rfl j u hj)
  case c2=>exact HX1.out
  case c3=>rw [maxLen_eq];omega
  case c4=>omega
  case c5=>simp
  intro v' w' hown hgrow _;have hb:Below w.heap.size w w':=((Below.refl _ w).alloc (Nat.le_refl _) _).grown hgrow (by simp) (by intro k hk;simp [Value.ownBlock] at hk;omega);have H:Hid (w'.ownsRow w.heap.size 63 2 v' n xs):=by
   show w'.ownsRow _ _ _ _ _ _;simpa using hown
  clear hown hgrow HV HX1;go_wp2_with fail;go_ret;exact ⟨⟨_,rfl,H⟩,hb⟩
end
theorem inter_flat (a:List UInt8):∀l:List (List UInt8),[32].intercalate (a::l)=a++l.flatMap (32::·)
 | []=>by simp [List.intercalate]
 |b::l=>by
  have h:=inter_flat b l;have e:([32]:List UInt8).intercalate (a::b::l)=a++(32::([32]:List UInt8).intercalate (b::l)):=by simp [List.intercalate]
  rw [e,h,List.flatMap_cons];rfl
theorem rule_joined (f:ByteArray) (ts:List ByteArray):[32].intercalate (wRule::bl f::ts.map bl)=recW wRule (ruleTx (ruleOf (f,ts))):=by
 rw [inter_flat,List.flatMap_cons];rfl
theorem ruleS_no {S:ShopS} {t:TapeS} {r:RuleL} (h:(rulesEr (S.rules++[r])).code≠0):ruleS S t r=((rulesEr (S.rules++[r])).code,S,t):=by unfold ruleS;rw [if_pos h]
theorem ruleS_full {S:ShopS} {t:TapeS} {r:RuleL} (h:(rulesEr (S.rules++[r])).code=0) (h2:(appT t (recW wRule (ruleTx r))).1≠0):ruleS S t r=((appT t (recW wRule (ruleTx r))).1,S,(appT t (recW wRule (ruleTx r))).2):=by unfold ruleS;rw [if_neg (by omega),if_pos h2]
theorem ruleS_done {S:ShopS} {t:TapeS} {r:RuleL} (h:(rulesEr (S.rules++[r])).code=0) (h2:(appT t (recW wRule (ruleTx r))).1=0):ruleS S t r=(0,{S with rules:=S.rules++[r]},(appT t (recW wRule (ruleTx r))).2):=by unfold ruleS;rw [if_neg (by omega),if_neg (by omega)]
theorem flatO_cells {w:World} {B:Nat} {l:List RuleB} {tvs:List Value} (h1:tvs.length=l.length) (h3:∀j,(hj:j<l.length)→∃tv,tvs[j]? =some tv∧w.ownsRow B 9 1 tv l[j].2.length (l[j].2.map Value.string)):∀u∈flatR l tvs,u.oneCell'=true:=by
 intro u hu;obtain ⟨p,hp,hu2⟩:=List.mem_flatMap.1 hu;rcases List.mem_cons.1 hu2 with rfl|hu3
 ·rfl
 ·obtain rfl:=List.mem_singleton.1 hu3;obtain ⟨j,hj,rfl⟩:=List.getElem_of_mem hp;rw [List.length_zip] at hj;obtain ⟨tv,e1,e2⟩:=h3 j (by omega);have e3:(l.zip tvs)[j].2=tv:=by
   rw [List.getElem_zip];rw [List.getElem?_eq_getElem (by omega)] at e1;exact Option.some.inj e1
  rw [e3];exact row_cell e2
theorem two_own (w:World) (a b:ByteArray):(w.alloc (.cells #[.string a,.string b] 9)).ownsRow w.heap.size 9 1 (.slice (some ⟨w.heap.size,0,none⟩) 2 2) 2 [.string a,.string b]:=
 World.ownsRow_lit w #[.string a,.string b] 2 (Nat.le_refl _) (by decide) rfl
theorem shopRule_any {E:Nat→Addr} (B nb sb tn:Nat) (n:NetB) (S:ShopS) (t:TapeS) (f:ByteArray) (tv:Value) (ts:List ByteArray) (w:World) (h:ProgIs w B nb sb n S t tn) (hok:OpOk S) (hfa:Fair (f,ts)) (hv:RowP w tv ts) (hBw:B≤w.heap.size) (hE:ShEnv E B w):
  Calls Tryz.prog 23 #[.pointer (some ⟨sb,0,none⟩),.agg #[.string f,tv]] w (CdPost E B nb sb tn n (ruleS S t (ruleOf (f,ts))) w):=by
 obtain ⟨i0,hi0,hz0,hz1,hz2⟩:=info_parts Tryz.infoW;obtain ⟨ta,tc,rfl,_⟩:=id hv;obtain ⟨px,hpx⟩:∃px,w.heap.size=px:=⟨_,rfl⟩;obtain ⟨wx,hwx⟩:∃wx,w.alloc (.cells #[.string f,.slice ta ts.length tc] 63)=wx:=⟨_,rfl⟩;have hbx:Below w.heap.size w wx:=by rw [←hwx];exact (Below.refl _ _).alloc (Nat.le_refl _) _
 have hX:wx.heap[px]? =some (.cells #[.string f,.slice ta ts.length tc] 63 (0,0)):=by rw [←hwx,←hpx];exact heap_alloc_new _ _
 obtain ⟨hb,tb,rv,lv,rl,hA⟩:=h;obtain ⟨hfew,hsm⟩:=rules_small (l:=rl) (by rw [hA.ruled];exact hok.rules);have HAx:=Lib.hid (hA.below hbx);have HE:=Lib.hid hE;have HFA:=Lib.hid hfa;have HSM:=Lib.hid hsm;have HV:=Lib.hid (hv.ext hbx);have HX:=Lib.hid hX;have HWX:=Lib.hid hwx;have HPX:=Lib.hid hpx;have HBX:=Lib.hid (hbx.mono hBw);have KX:=Lib.hid (show Keeps PRow B w wx from Keeps.of hbx hBw);have hBwx:B≤wx.heap.size:=Nat.le_trans hBw hbx.size;have hts30:ts.length≤30000:=hfa.2.1;have hpxl:px<wx.heap.size:=(Array.getElem?_eq_some_iff.1 hX).1;obtain ⟨tvs,t1,t2,t3⟩:=HAx.out.rules;have hcl:=flatO_cells t1 t3;have HT1:=Lib.hid t1;have HT2:=Lib.hid t2;have HT3:=Lib.hid t3;have HCL:=Lib.hid hcl;have K0:Hid (∀W,Below wx.heap.size wx W→W.cell? ⟨sb,1,none⟩=some rv∧W.cell? ⟨px,0,none⟩=some (.string f)∧W.cell? ⟨px,1,none⟩=some (.slice ta ts.length tc)):=fun W hW=>by
  have h1:=(hW.block px hpxl).trans HX.out;exact ⟨(HAx.out.below hW).cells.2.1,by rw [Lib.cell_of_heap h1];rfl,by rw [Lib.cell_of_heap h1];rfl⟩
 have CC:Hid (∀W,Below wx.heap.size wx W→Calls Tryz.prog 30 #[rv] W fun e w'=>(∃ov,e=.returned ov∧Hid (w'.ownsRow wx.heap.size 63 2 ov rl.length (flatR rl tvs)))∧Below wx.heap.size wx w'):=fun W hW=>by
  refine (cloneRules_any B rv rl.length (flatR rl tvs) W (by omega) HCL.out (owns_below HT2.out hW)).mono ?_;rintro e w' ⟨⟨ov,rfl,hO⟩,hb'⟩;exact ⟨⟨ov,rfl,own_mono hO.out hW.size⟩,hW.trans (hb'.mono hW.size)⟩
 have CP:Hid (∀W,Below wx.heap.size wx W→Calls Tryz.prog 31 #[.agg #[.string f,.slice ta ts.length tc]] W fun e w'=>(∃ov,e=.returned (.agg #[.string f,ov])∧Hid (w'.ownsRow wx.heap.size 9 1 ov ts.length (ts.map Value.string)))∧Below W.heap.size W w'∧Below wx.heap.size wx w'):=fun W hW=>by
  refine (copied_any f (.slice ta ts.length tc) ts W (by omega) (HV.out.ext hW)).mono ?_;rintro e w' ⟨⟨ov,rfl,hO⟩,hb'⟩;exact ⟨⟨ov,rfl,own_mono hO.out hW.size⟩,hb',hW.trans (hb'.mono hW.size)⟩
 have KD:Hid (∀W W2 v,Below wx.heap.size wx W→W.ownsRow wx.heap.size 63 2 v rl.length (flatR rl tvs)→W.grownBy W2 v.ownBlock→Below wx.heap.size wx W2):=fun W W2 v hW hO hG=>hW.grown hG hW.size (fun k hk=>(hO.lt k hk).1)
 have HRU:=Lib.hid HAx.out.ruled;have hdr:Below wx.heap.size wx wx.drew:=below_drewN _ _ 1;obtain ⟨c1,x0,x1⟩:=K0.out wx (Below.refl _ _);clear hA hE hfa hsm hv hX hwx hpx hbx t1 t2 t3 hcl hok;go_enter Tryz.func23,Tryz.ntmps23;go_upto_region 1 with fail
 rw [HWX.out,HPX.out];go_region_held3 (fun W:World=>W.cell? ⟨sb,1,none⟩=some rv∧W.cell? ⟨px,0,none⟩=some (.string f)∧W.cell? ⟨px,1,none⟩=some (.slice ta ts.length tc)) (first|exact ⟨c1,x0,x1⟩|exact K0.out _ hb8|exact K0.out _ (hb2.alloc hb2.size _)|exact K0.out _ hb2|exact K0.out _ hb1|exact K0.out _ hdr)
  (first
   |(refine step_append_rule (by rfl) _ _ (by rfl) wx.heap.size (.slice va rl.length vc) rl.length (flatR rl tvs) (by rfl) (owns_below HO1.out ((hb21.alloc (Nat.le_trans (Nat.le_refl _) hb21.size) _))) f (.slice oa ts.length oc) rfl w2.heap.size (by rfl) (rule_new w2 f _).1 (rule_new w2 f _).2 (by omega) (hb2.alloc hb2.size _).size ?_;intro v8 w8 HO8 HG8;have hb8:=KD.out _ w8 _ (hb2.alloc hb2.size _) (owns_below HO1.out ((hb21.alloc hb21.size _))) HG8.out)
   |(go_at_call 31;refine (CP.out _ hb1).mono ?_;rintro e w2 ⟨⟨ov,rfl,HO2⟩,hb21,hb2⟩;obtain ⟨oa,oc,rfl⟩:=row_shape HO2.out)
   |(go_at_call 30;refine (CC.out _ hdr).mono ?_;rintro e w1 ⟨⟨ov1,rfl,HO1⟩,hb1⟩;obtain ⟨va,vc,rfl⟩:=row_shape HO1.out)
   |fail)
 all_goals
  obtain ⟨a8,k8,rfl⟩:=row_shape HO8.out;have hal:Below w2.heap.size w2 (w2.alloc (.cells #[.string f,.slice oa ts.length oc] 63)):=(Below.refl _ _).alloc (Nat.le_refl _) _;have hbA:=hb2.alloc hb2.size (.cells #[.string f,.slice oa ts.length oc] 63);have hR8:RulesOwn w8 B (.slice a8 (rl.length+1) k8) (rl++[(f,ts)]):=by
   refine RulesOwn.snoc (r:=(f,ts)) HT1.out (own_mono (owns_below HO1.out ((hb21.alloc hb21.size _))) hBwx) (fun j hj=>?_) (own_mono (owns_below HO2.out hal) hBwx) (own_mono HO8.out hBwx) HG8.out;obtain ⟨tv,h1,h2⟩:=HT3.out j hj;exact ⟨tv,h1,owns_below h2 hbA⟩
  have HR8:=Lib.hid hR8;have HA8:=Lib.hid (HAx.out.below hb8);have HX8:Hid (w8.heap[px]? =some (.cells #[.string f,.slice ta ts.length tc] 63 (0,0))):=(hb8.block px hpxl).trans HX.out;have HV8:=Lib.hid (HV.out.ext hb8);have hbB8:=HBX.out.trans (hb8.mono hBwx);have hB8:B≤w8.heap.size:=Nat.le_trans hBwx hb8.size;have K8:Hid (Keeps PRow B w w8):=KX.out.trans (Keeps.of hb8 hBwx);have hFA:∀r∈rl++[(f,ts)],Fair r:=fun r hr=>by
   rcases List.mem_append.1 hr with hr|hr
   ·exact (HSM.out r hr).fair
   ·obtain rfl:=List.mem_singleton.1 hr;exact HFA.out
  have CM:=mirrorCheck_any _ (rl++[(f,ts)]) w8 (by simp;omega) hFA hR8.row (HE.out.env w8 hbB8).2;have hno:=@ruleS_no S t (ruleOf (f,ts));have hfu:=@ruleS_full S t (ruleOf (f,ts));have hdo:=@ruleS_done S t (ruleOf (f,ts));have hsmall:=@rules_small (rl++[(f,ts)]);have erw:S.rules++[ruleOf (f,ts)]=(rl++[(f,ts)]).map ruleOf:=by rw [←HRU.out,List.map_append];rfl
  rw [erw] at hno hfu hdo;unfold CheckPost at CM;obtain ⟨er,her⟩:∃er,rulesEr ((rl++[(f,ts)]).map ruleOf)=er:=⟨_,rfl⟩;rw [her] at CM hno hfu hdo hsmall;have HC:=Lib.hid CM;have HNO:=Lib.hid hno;have HFU:=Lib.hid hfu;have HDO:=Lib.hid hdo;have HSA:=Lib.hid hsmall;clear CM hno hfu hdo hsmall her erw hFA hR8 hbA hal hb21 hb1 hb2 hb8 HO1 HO2 HO8 HG8 CC CP KD K0 HT1 HT2 HT3 HCL hdr c1 x0 x1 HV HX;go_wp2_with fail;refine HC.out.mono ?_;clear HC;rintro e w9 ⟨⟨ev,rfl,HI⟩,hb9⟩;have HA9:=Lib.hid (HA8.out.below hb9);have HX9:Hid (w9.heap[px]? =some (.cells #[.string f,.slice ta ts.length tc] 63 (0,0))):=(hb9.block px (Array.getElem?_eq_some_iff.1 HX8.out).1).trans HX8.out;have HV9:=Lib.hid (HV8.out.ext hb9);have HR9:=Lib.hid (HR8.out.ext hb9);have hbB9:=hbB8.trans (hb9.mono hB8);have hB9:B≤w9.heap.size:=Nat.le_trans hB8 hb9.size;have K9:Hid (Keeps PRow B w w9):=K8.out.trans (Keeps.of hb9 hB8);clear HA8 HX8 HV8 HR8 K8 hb9;by_cases hz:er.code=0
  ·obtain rfl:ev=.nilIface:=HI.out.zero hz;obtain ⟨hs1,hs2⟩:=HSA.out hz;obtain ⟨hf2,hts2,htz2⟩:=hs2 (f,ts) (by simp);have hf3:f.size≤120:=hf2;have hts3:ts.length≤10:=hts2;have HTZ:Hid (∀z∈ts,z.size≤120):=htz2;have K1:Hid (∀W,Below w9.heap.size w9 W→W.cell? ⟨sb,4,none⟩=some (.pointer (some ⟨tb,0,none⟩))∧W.cell? ⟨px,0,none⟩=some (.string f)∧W.cell? ⟨px,1,none⟩=some (.slice ta ts.length tc)):=fun W hW=>by
    have h1:=(hW.block px (Array.getElem?_eq_some_iff.1 HX9.out).1).trans HX9.out;exact ⟨(HA9.out.below hW).cells.2.2.2.2,by rw [Lib.cell_of_heap h1];rfl,by rw [Lib.cell_of_heap h1];rfl⟩
   have hd1:Below w9.heap.size w9 w9.drew:=below_drewN _ _ 1;have hal:Below w9.heap.size w9 (w9.drew.alloc (.cells #[.string ⟨#[114,117,108,101]⟩,.string f] 9)):=hd1.alloc (Nat.le_refl _) _;have HO2:=Lib.hid (two_own w9.drew ⟨#[114,117,108,101]⟩ f);have HSR:Hid (Srcs (w9.drew.alloc (.cells #[.string ⟨#[114,117,108,101]⟩,.string f] 9)) 1 (.slice ta ts.length tc) ts.length (ts.map Value.string)):=(HV9.out.ext hal).srcs;have CJ:Hid (∀(W:World) (v:Value),Below w9.heap.size w9 W→W.ownsRow w9.heap.size 9 1 v (2+ts.length) ([.string ⟨#[114,117,108,101]⟩,.string f]++ts.map Value.string)→Calls Tryz.prog 34 #[v,.string ⟨#[32]⟩] W fun e w'=>(∃y:ByteArray,e=.returned (.string y)∧Hid (bl y=recW wRule (ruleTx (ruleOf (f,ts)))))∧Below w9.heap.size w9 w'):=fun W v hW hO=>by
    have e1:(([⟨#[114,117,108,101]⟩,f]++ts:List ByteArray)).length=2+ts.length:=by simp;omega
    have:=joinSep_any (base:=w9.heap.size) (v:=v) (out:=[⟨#[114,117,108,101]⟩,f]++ts) ⟨#[32]⟩ (by decide) (W:=W) (by rw [e1,List.map_append];exact hO) (by rw [e1];omega) (fun z hz=>by
     rcases List.mem_append.1 hz with hz|hz
     ·simp only [List.mem_cons,List.not_mem_nil,or_false] at hz;rcases hz with rfl|rfl
      ·decide
      ·omega
     ·have:=HTZ.out z hz;omega)
    refine this.mono ?_;rintro e w' ⟨⟨y,rfl,hy⟩,hb⟩;refine ⟨⟨y,rfl,?_⟩,hW.trans (hb.mono hW.size)⟩;show _=_;rw [hy.out];exact rule_joined f ts
   have hle:=appT_le t (recW wRule (ruleTx (ruleOf (f,ts))));have CA:∀(W:World) (y:ByteArray),Below w9.heap.size w9 W→bl y=recW wRule (ruleTx (ruleOf (f,ts)))→Calls Tryz.prog 33 #[.pointer (some ⟨tb,0,none⟩),.string y] W (TAppPost E B tb (appT t (recW wRule (ruleTx (ruleOf (f,ts))))) W):=fun W y hW hy=>by
    have hWB:=hbB9.trans (hW.mono hB9);have:=tapeApp_any B tb t y W (HA9.out.below hW).tape (Nat.le_trans hB9 hW.size) (HE.out.env W hWB).1.1.2 (HE.out.env W hWB).env HE.out.low;rwa [hy] at this
   have hkf:=HFU.out hz;have hkd:=HDO.out hz;obtain ⟨ar,har⟩:∃ar,appT t (recW wRule (ruleTx (ruleOf (f,ts))))=ar:=⟨_,rfl⟩;rw [har] at CA hle hkf hkd;obtain ⟨ac,at2⟩:=ar;unfold TAppPost at CA;dsimp only at CA hle hkf hkd;have HCA:=Lib.hid CA;have HKF:=Lib.hid hkf;have HKD:=Lib.hid hkd;have HAL:=Lib.hid hal;obtain ⟨c4,x0,x1⟩:=K1.out w9 (Below.refl _ _);clear CA har hkf hkd hz HI HNO HFU HDO HSA hs1 hs2 hf2 hts2 htz2 hal;go_wp2_with fail;go_region_held3 (fun W:World=>W.cell? ⟨sb,4,none⟩=some (.pointer (some ⟨tb,0,none⟩))∧W.cell? ⟨px,0,none⟩=some (.string f)∧W.cell? ⟨px,1,none⟩=some (.slice ta ts.length tc)) (first|exact ⟨c4,x0,x1⟩|exact d7|exact K1.out _ hb6|exact K1.out _ hb5|exact K1.out _ HAL.out|exact K1.out _ hd1)
    (first
     |(go_at_call 33;refine (HCA.out _ _ hb6 HY6.out).mono ?_;rintro e w7 ⟨rfl,ht7,hk7⟩;have d7:w7.cell? ⟨sb,4,none⟩=some (.pointer (some ⟨tb,0,none⟩))∧w7.cell? ⟨px,0,none⟩=some (.string f)∧w7.cell? ⟨px,1,none⟩=some (.slice ta ts.length tc):=by (have h1:=hk7.keep px _ ((hb6.block px (Array.getElem?_eq_some_iff.1 HX9.out).1).trans HX9.out) (kt_other _ (by decide) (by decide) _ _);exact ⟨((HA9.out.below hb6).turnTape hk7 ht7).cells.2.2.2.2,by rw [Lib.cell_of_heap h1];rfl,by rw [Lib.cell_of_heap h1];rfl⟩))
     |(go_at_call 34;refine (CJ.out _ _ hb5 HO5.out).mono ?_;rintro e w6 ⟨⟨y,rfl,HY6⟩,hb6⟩)
     |(refine step_append_src (by rfl) _ _ 22 (by rfl) w9.drew.heap.size 9 i0 (.string ⟨#[]⟩) 1 16 Tryz.underlying22 hi0 hz0 hz1 hz2 rfl (by decide) (.slice (some ⟨w9.drew.heap.size,0,none⟩) 2 2) 2 [.string ⟨#[114,117,108,101]⟩,.string f] (by rfl) HO2.out (.slice ta ts.length tc) ts.length (ts.map Value.string) (by rfl) HSR.out (by rw [maxLen_eq];omega) (by omega) (HAL.out.size) ?_;intro v5 w5 ho5 hg5;have HO5:=Lib.hid ho5;have hb5:=HAL.out.grown hg5 HAL.out.size (fun k hk=>(HO2.out.lt k hk).1);clear ho5 hg5)
     |fail)
   all_goals
    have HA7:=Lib.hid ((HA9.out.below hb6).turnTape hk7 ht7);have K7:=Lib.hid ((K9.out.trans (Keeps.of hb6 hB9)).trans hk7.p_tape);have HR7:=Lib.hid ((HR9.out.ext hb6).keeps hk7 (kt_other _ (by decide) (by decide)) (kt_other _ (by decide) (by decide)));have hB7:B≤w7.heap.size:=Nat.le_trans hB9 (Nat.le_trans hb6.size hk7.below.size);obtain ⟨c0,c1,c2,c3,c4'⟩:=HA7.out.cells;have f1:=HA7.out.froz 1;clear ht7 hk7 d7 CJ HCA K1 hb6 hb5 HO5 HY6 HAL HO2 HSR hd1 c4 x0 x1 HA9 HR9 HX9 HV9
    cases ac with
    |zero=>
     have HY:=Lib.hid (HKD.out rfl);rw [show errV E 0=.nilIface from rfl];have hA10:=HA7.out.setRules HR7.out hB7;have HA10:=Lib.hid hA10;have HK10:=Lib.hid (K7.out.trans (HA7.out.store 1 (.slice a8 (rl.length+1) k8) hB7).p_shop);clear HKF HKD hA10;go_wp2_with fail;go_ret;rw [HY.out];exact ⟨rfl,Nat.zero_le _,⟨_,_,_,_,_,HA10.out⟩,HK10⟩
    |succ ac=>
     have HY:=Lib.hid (HKF.out (Nat.succ_ne_zero _));rw [show errV E (ac+1)=sentV E ac from rfl];have C:=Lib.hid (treeBare_any (E:=E) ⟨ac+1,none⟩ (sentV E ac) w7 (errV_is hle));clear HKF HKD;go_wp2_with fail;refine C.out.mono ?_;clear C;rintro e w8 ⟨⟨u,rfl,HU⟩,rfl⟩;obtain ⟨rfl,_⟩:=IsErr.bare_inv HU.out;clear HU;go_wp2_with fail;go_ret;rw [HY.out];exact ⟨rfl,hle,⟨_,_,_,_,_,HA7.out⟩,K7⟩
  ·have HY:=Lib.hid (HNO.out hz);have C:=Lib.hid (treeBare_any er ev w9 HI.out);obtain ⟨ty,y,rfl⟩:=HI.out.some_inv hz;obtain ⟨cc,hcc⟩:=Nat.exists_eq_succ_of_ne_zero hz;rw [hcc] at C HY;clear hz HI HNO HFU HDO HSA hcc;go_wp2_with fail;refine C.out.mono ?_;clear C;rintro e w10 ⟨⟨u,rfl,HU⟩,rfl⟩;obtain ⟨rfl,hc13⟩:=IsErr.bare_inv HU.out;clear HU;go_wp2_with fail;go_ret;rw [HY.out];exact ⟨rfl,by omega,⟨_,_,_,_,_,HA9.out⟩,K9⟩
end Go.Proofs.YtaabgmbjmfjdjaaGreatDoor
