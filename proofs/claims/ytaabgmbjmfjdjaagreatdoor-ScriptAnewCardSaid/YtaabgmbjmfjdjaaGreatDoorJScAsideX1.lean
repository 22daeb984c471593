import Derived.Test.YtaabgmbjmfjdjaaGreatDoorJScPlayEtc
import Derived.Test.YtaabgmbjmfjdjaaGreatDoorJPathedEtc
import Derived.Laws.OwnMore
namespace Go.Proofs.YtaabgmbjmfjdjaaGreatDoor
open Go Go.RowKit
def Aside (v u:Value):Prop:=∀g,v.ownBlock=some g→u.ownBlock≠some g
theorem Aside.symm {v u:Value} (h:Aside v u):Aside u v:=fun g h1 h2=>h g h2 h1
theorem run_append_aside {P:Program} (w:World) (base:Nat) (t ty e:TypeId) (i:TypeInfo) (z:Value) (bytes:Nat) (ht:P.underlying t=some (.slice e)) (hi:P.info? e=some i) (hz:i.zero=some z)
  (hsize:i.size=1) (hby:i.bytes=bytes) (hzs:z.cells.size=1) (v:Value) (n:Nat) (xs:List Value) (hown:w.ownsRow base e 1 v n xs)
  (a:Addr) (c:Nat) (x:Value) (hnews:∀j u,[x][j]? =some u→w.cell? (a.add j)=some u) (h1:∀u∈[x],u.oneCell'=true)
  (h63:n+1≤maxLen) (hbytes:(n+1)*bytes≤140737488355328) (hbase:base≤w.heap.size):
  ∃v' w',(Builtin.append_ #[t,t] ty #[v,.slice (some a) 1 c]).run P w=.ok v' w'∧w'.ownsRow base e 1 v' (n+1) (xs++[x])∧w.grownBy w' v.ownBlock∧(∀g,v'.ownBlock=some g→v.ownBlock=some g∨w.heap.size≤g):=by
 have hown0:=hown;rcases hown.2 with ⟨rfl,rfl⟩|⟨g,cap,cur,rfl,hbg,hg,hnc,hcm,hcs,htake⟩
 ·obtain rfl:xs=[]:=List.eq_nil_of_length_eq_zero (by simpa using hown.1);obtain ⟨v',w',hr,h2,h3,_⟩:=run_append_own (P:=P) w w.heap.size t ty e i z 1 bytes ht hi hz hsize hby hzs (by omega) (.slice none 0 0) 0 [] (World.ownsRow_nil _ _ _ _) a 1 c [x] rfl hnews h1 h63 hbytes (Nat.le_refl _);exact ⟨v',w',hr,row_mono h2 hbase,h3,fun g hg=>.inr (h2.lt g hg).1⟩
 ·by_cases hroom:n+1≤cap
  ·obtain ⟨w',hr,h2,h3⟩:=run_append_fits (P:=P) (w:=w) base t ty e i 1 ht hi hsize g n cap xs hown0 a 1 c [x] rfl hnews h1 hroom;exact ⟨_,w',hr,h2,h3,fun g2 hg2=>.inl hg2⟩
  ·have holds:∀j u,xs[j]? =some u→w.cell? ((⟨g,0,none⟩:Addr).add j)=some u:=hown0.cells (g:=g) rfl;obtain ⟨v',w',hr,h2,h3,_⟩:=run_append_own (P:=P) w base t ty e i z 1 bytes ht hi hz hsize hby hzs (by omega) _ n xs hown0 a 1 c [x] rfl hnews h1 h63 hbytes hbase;have hr2:=run_append_grow (P:=P) w t ty e i z ht hi hz ⟨g,0,none⟩ n cap xs (by rw [hown0.1,hsize]) holds a 1 c [x] (by rw [hsize];rfl) hnews (by omega) (by unfold maxLen at h63;omega) (growslice_fits (by omega) (by rw [hby];exact hbytes));have e:=hr.symm.trans hr2;injection e with e1 e2
   exact ⟨v',w',hr,h2,h3,fun g2 hg2=>.inr (by rw [e1] at hg2;cases hg2;exact Nat.le_refl _)⟩
section
variable {w:World} {base:Nat} {v:Value} {ops:Array Oper} {rest:List Oper} {o:Oper} {a:Act} {Q:Exit→Act→World→Prop}
theorem push_side {acc:List ByteArray} {x:ByteArray} (hg:o.guard=none) (p q:Operand) (hop:o.op=Op.call {callee:=Callee.builtin Builtin.append,args:=#[p,q],argTypes:=#[22,22]})
  (hs:a.eval p=v) (hx:a.eval q=.slice (some ⟨w.heap.size,0,none⟩) 1 1) (hown:w.ownsRow base 9 1 v acc.length (acc.map Value.string)) (hn:acc.length≤1000000) (hB:base≤w.heap.size)
  (hK:∀v' w',Hid (w'.ownsRow base 9 1 v' (acc++[x]).length ((acc++[x]).map Value.string))→Below base w w'→Hid (∀(u:Value) (zs:List ByteArray),w.ownsRow base 9 1 u zs.length (zs.map Value.string)→Aside v u→w'.ownsRow base 9 1 u zs.length (zs.map Value.string)∧Aside v' u)→wpList Tryz.prog ops Q rest (a.put o.dst v') w'):wpList Tryz.prog ops Q (o::rest) a (w.alloc (.cells #[.string x] 9)):=by
 obtain ⟨i0,hi0,hz0,hz1,hz2⟩:=info_parts Tryz.infoStrP;have hb:Below base w (w.alloc (.cells #[.string x] 9)):=(Below.refl _ _).alloc hB _;obtain ⟨v',w',hr,h1,h2,h3⟩:=run_append_aside (P:=Tryz.prog) (w.alloc (.cells #[.string x] 9)) base 22 o.type 9 i0 (.string ⟨#[]⟩) 16 Tryz.underlying22 hi0 hz0 hz1 hz2 rfl v acc.length (acc.map Value.string) (hown.alloc _) ⟨w.heap.size,0,none⟩ 1 (.string x)
  (fun j u hj=>by
   match j,hj with
   |0,hj=>simp at hj;subst hj;rw [Addr.add_lit,World.cell?_alloc_at _ _ _ _ rfl];rfl)
  (fun u hu=>by simp at hu;subst hu;rfl) (by unfold maxLen;omega) (by omega) (by simp;omega)
 refine wpList_plain hg fun K hKK=>?_
 unfold Oper.wp execOp;simp only [hop,resolve,invoke,builtin,Sem.run_bind,Sem.run_pure,Result.andThen_ok,List.map_toArray,List.map_cons,List.map_nil,hs,hx,hr];refine hKK _ _ (hK v' w' (by show World.ownsRow _ _ _ _ _ _ _;simpa using h1) (hb.grown h2 (by simp;omega) (fun g hg=>(hown.lt g hg).1)) fun u zs hu ha=>⟨(hu.alloc _).kept h2 ?_,fun g hg e=>?_⟩)
 ·cases hub:u.ownBlock with
  |none=>exact .inl rfl
  |some g=>exact .inr (fun e=>ha g e.symm hub)
 ·rcases h3 g hg with h|h
  ·exact ha g h e
  ·have:=(hu.lt g e).2;simp at h;omega
end
def agB:ByteArray:=⟨#[97,103,97,105,110]⟩
def spl (l:List ByteArray) (c k:Nat):List ByteArray:=if k≤c then l.take k else l.take c++agB::(l.take k).drop c
section
variable {l:List ByteArray} {c k:Nat}
theorem spl_low (h:k+1≤c) (hk:k<l.length):spl l c (k+1)=spl l c k++[l[k]]:=by
 unfold spl;rw [if_pos h,if_pos (by omega),List.take_add_one,List.getElem?_eq_getElem hk];rfl
theorem spl_at (hk:k<l.length):spl l k (k+1)=(spl l k k++[agB])++[l[k]]:=by
 unfold spl;rw [if_neg (by omega),if_pos (Nat.le_refl _),List.take_add_one,List.getElem?_eq_getElem hk,List.drop_append_of_le_length (by rw [List.length_take];omega),List.drop_eq_nil_of_le (by rw [List.length_take];omega)];simp
theorem spl_high (_:c<k) (hk:k<l.length):spl l c (k+1)=spl l c k++[l[k]]:=by
 unfold spl;rw [if_neg (by omega),if_neg (by omega),List.take_add_one,List.getElem?_eq_getElem hk,List.drop_append_of_le_length (by rw [List.length_take];omega)];simp
theorem spl_len:(spl l c l.length).length=if c<l.length then l.length+1 else l.length:=by
 unfold spl;by_cases h:c<l.length
 ·rw [if_neg (by omega),if_pos h,List.length_append,List.length_cons,List.length_drop,List.length_take,List.length_take];omega
 ·rw [if_pos (by omega),if_neg h,List.length_take];omega
theorem spl_lenk:(spl l c k).length≤k+1:=by
 unfold spl;split
 ·rw [List.length_take];omega
 ·rw [List.length_append,List.length_cons,List.length_drop,List.length_take,List.length_take];omega
theorem spl_mem {z:ByteArray} (h:z∈spl l c k):z∈l∨z=agB:=by
 unfold spl at h;split at h
 ·exact .inl (List.mem_of_mem_take h)
 ·rcases List.mem_append.1 h with h|h
  ·exact .inl (List.mem_of_mem_take h)
  ·rcases List.mem_cons.1 h with h|h
   ·exact .inr h
   ·exact .inl (List.mem_of_mem_take (List.mem_of_mem_drop h))
theorem spl_ans (hnf:∀z∈l,(cutL 32 (bl z)).headD []≠[102,97,105,108]) (us vs:List ByteArray) (hu:us.map bl=linesS play0 (l.map bl)) (hv:vs.map bl=linesS play0 ((spl l c l.length).map bl)):
  ∀i,i<us.length→(c<l.length→c≤i→vs[i+1]? =us[i]?)∧((c<l.length→i<c)→vs[i]? =us[i]?):=by
 have inj:∀(i j:Nat),(vs.map bl)[i]? =(us.map bl)[j]?→vs[i]? =us[j]?:=fun i j h=>by
  rw [List.getElem?_map,List.getElem?_map] at h
  cases h1:vs[i]?<;>cases h2:us[j]?<;>rw [h1,h2] at h
  ·simp at h
  ·simp at h
  ·rw [bl_inj (Option.some.inj h)]
 intro i hi;have hul:us.length=l.length:=by have:=congrArg List.length hu;simpa [linesS_len] using this
 by_cases hc:c<l.length
 ·have e:(spl l c l.length).map bl=(l.map bl).take c++[97,103,97,105,110]::(l.map bl).drop c:=by
   unfold spl;rw [if_neg (by omega),List.take_of_length_le (Nat.le_refl l.length),List.map_append,List.map_cons,List.map_take,List.map_drop];rfl
  have hA:=linesS_anew (l.map bl) c (fun s hs=>by obtain ⟨z,hz,rfl⟩:=List.mem_map.1 hs;exact hnf z hz);rw [e,hA,←hu] at hv;have hcl:((us.map bl).take c).length=c:=by rw [List.length_take,List.length_map];omega
  refine ⟨fun _ h=>inj _ _ ?_,fun h=>inj _ _ ?_⟩
  ·rw [hv,List.getElem?_append_right (by omega),hcl,show i+1-c=(i-c)+1 by omega,List.getElem?_cons_succ,List.getElem?_drop,show c+(i-c)=i by omega]
  ·have:=h hc;rw [hv,List.getElem?_append_left (by omega),List.getElem?_take,if_pos this]
 ·have e:spl l c l.length=l:=by unfold spl;rw [if_pos (by omega),List.take_of_length_le (Nat.le_refl _)]
  rw [e,←hu] at hv;exact ⟨fun h=>absurd h hc,fun _=>inj _ _ (by rw [hv])⟩
end
theorem RowP.get {W:World} {ao:Option Addr} {n cap:Nat} {l:List ByteArray} (h:RowP W (.slice ao n cap) l) (i:Nat) (hi:i<l.length):∃b off,ao=some ⟨b,off,none⟩∧b<W.heap.size∧W.cell? ⟨b,off+i,none⟩=some (.string l[i]):=by
 obtain ⟨ao2,cap2,e,h1,h2,h3,h4⟩:=h
 cases e;obtain ⟨b,off,e,hb,hc⟩:=h4 i hi;exact ⟨b,off,e,hb,hc i hi⟩
end Go.Proofs.YtaabgmbjmfjdjaaGreatDoor
