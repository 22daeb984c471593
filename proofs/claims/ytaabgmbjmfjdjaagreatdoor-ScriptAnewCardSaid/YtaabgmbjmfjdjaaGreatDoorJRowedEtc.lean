import Derived.Test.YtaabgmbjmfjdjaaGreatDoorJErrors
import Derived.Deep.QuietTactic
import Derived.BigQuiet
import Derived.Test.YtaabgmbjmfjdjaaGreatDoorProg
import Derived.WalkKit
import Derived.Laws.Slices
import Derived.Laws.Strings2
import Derived.Lib.Builder
import Derived.Lib.AppendStr
import Derived.Lib.UnsafeStr
import Derived.Lib.Hide
import Derived.Deep.Draws
import Derived.Test.YtaabgmbjmfjdjaaGreatDoorJShelf
import Derived.Test.YtaabgmbjmfjdjaaGreatDoorJPlainly
import Derived.Lib.LaidTab
import Derived.Laws.AppendOwnNone
import Derived.Lib.SliceRun
import Derived.Deep.RegionWith
import Derived.IntWalk
import Derived.Deep.RegionLaw
import Derived.Laws.AppendOwn
namespace Go.Proofs.YtaabgmbjmfjdjaaGreatDoor
open Go Go.RowKit
set_option maxHeartbeats 2000000
set_option maxRecDepth 100000
def Row {α:Type} (enc:α→List Value) (size:Nat) (w:World) (v:Value) (l:List α):Prop:=
 (v=.slice none 0 0∧l=[])∨∃b off cap,v=.slice (some ⟨b,off,none⟩) l.length cap∧l.length≤cap∧cap≤maxLen∧b<w.heap.size∧
  ∀i,(hi:i<l.length)→∀j,j<size→w.cell? ⟨b,off+i*size+j,none⟩=some ((enc l[i]).getD j undef)
theorem Row.ext {α:Type} {enc:α→List Value} {size:Nat} {w w':World} {v:Value} {l:List α} (h:Row enc size w v l) (hb:Below w.heap.size w w'):Row enc size w' v l:=by
 rcases h with h|⟨b,off,cap,h1,h2,h3,h4,h5⟩
 ·exact .inl h
 ·exact .inr ⟨b,off,cap,h1,h2,h3,Nat.lt_of_lt_of_le h4 hb.size,fun i hi j hj=>by rw [hb.cell (p:=⟨b,off+i*size+j,none⟩) h4];exact h5 i hi j hj⟩
theorem Row.nil {α:Type} (enc:α→List Value) (size:Nat) (w:World):Row enc size w (.slice none 0 0) ([]:List α):= .inl ⟨rfl,rfl⟩
abbrev encInt (n:Int):List Value:=[.int .i64 n]
abbrev encStr (s:ByteArray):List Value:=[.string s]
theorem Row.one {α:Type} {f:α→Value} {w:World} {v:Value} {l:List α} (h:Row (fun x=>[f x]) 1 w v l):
  (v=.slice none 0 0∧l=[])∨∃b off cap,v=.slice (some ⟨b,off,none⟩) l.length cap∧l.length≤cap∧cap≤maxLen∧b<w.heap.size∧
   ∀i,(hi:i<l.length)→w.cell? ⟨b,off+i,none⟩=some (f l[i]):=by
 rcases h with h|⟨b,off,cap,h1,h2,h3,h4,h5⟩
 ·exact .inl h
 ·exact .inr ⟨b,off,cap,h1,h2,h3,h4,fun i hi=>by simpa using h5 i hi 0 (by decide)⟩
theorem Row.parts {α:Type} {f:α→Value} {w:World} {v:Value} {l:List α} (h:Row (fun x=>[f x]) 1 w v l):
  ∃ao cap,v=.slice ao l.length cap∧l.length≤cap∧cap≤maxLen∧(∀i,(hi:i<l.length)→∃b off,ao=some ⟨b,off,none⟩∧b<w.heap.size∧∀k,(hk:k<l.length)→w.cell? ⟨b,off+k,none⟩=some (f l[k])):=by
 rcases h.one with ⟨rfl,rfl⟩|⟨b,off,cap,rfl,h1,h2,h3,h4⟩
 ·exact ⟨none,0,rfl,Nat.le_refl _,Nat.zero_le _,fun i hi=>absurd hi (Nat.not_lt_zero _)⟩
 ·exact ⟨some ⟨b,off,none⟩,cap,rfl,h1,h2,fun i hi=>⟨b,off,rfl,h3,h4⟩⟩
theorem below_drewN (B:Nat) (w:World) (n:Nat):Below B w (w.drewN n):=⟨rfl,rfl,rfl,Nat.le_refl _,fun _ _=>rfl⟩
theorem maxLen_eq:maxLen=9223372036854775807:=rfl
theorem Row.block1 {α:Type} (f:α→Value) (w:World) (l:List α) (t:TypeId) (hl:l.length≤maxLen) (b n:Nat) (hb:b=w.heap.size) (hn:n=l.length):
  Row (fun x=>[f x]) 1 (w.alloc (.cells (l.map f).toArray t)) (.slice (some ⟨b,0,none⟩) n n) l:=by
 subst hb;subst hn;refine .inr ⟨w.heap.size,0,l.length,rfl,Nat.le_refl _,hl,by simp,fun i hi j hj=>?_⟩;obtain rfl:j=0:=by omega
 rw [World.cell?_alloc_at _ _ _ _ rfl];simp [hi]
theorem flatMap_at {α:Type} (enc:α→List Value) (size:Nat) (hs:∀x,(enc x).length=size):∀(l:List α) (i j:Nat) (hi:i<l.length),j<size→(l.flatMap enc)[i*size+j]? =(enc l[i])[j]?
 | [],i,j,hi,_=>absurd hi (Nat.not_lt_zero _)
 |x::l,0,j,_,hj=>by
  simp only [List.flatMap_cons,Nat.zero_mul,Nat.zero_add,List.getElem_cons_zero];rw [List.getElem?_append_left (by rw [hs];exact hj)]
 |x::l,i+1,j,hi,hj=>by
  simp only [List.flatMap_cons,List.getElem_cons_succ];rw [List.getElem?_append_right (by rw [hs,Nat.succ_mul];omega),hs,Nat.succ_mul,show i*size+size+j-size=i*size+j by omega];exact flatMap_at enc size hs l i j (by simpa using hi) hj
theorem flatMap_len {α:Type} (enc:α→List Value) (size:Nat) (hs:∀x,(enc x).length=size) (l:List α):(l.flatMap enc).length=l.length*size:=by
 induction l with
 |nil=>simp
 |cons x l ih=>rw [List.flatMap_cons,List.length_append,ih,hs,List.length_cons,Nat.succ_mul];omega
theorem Row.of_owns {α:Type} {enc:α→List Value} {size base:Nat} {e:TypeId} {w:World} {v:Value} {l:List α} (hs:∀x,(enc x).length=size) (h:w.ownsRow base e size v l.length (l.flatMap enc)):Row enc size w v l:=by
 rcases h.2 with ⟨rfl,h0⟩|⟨g,cap,cur,rfl,hb,hg,hn,hc,hsz,ht⟩
 ·exact .inl ⟨rfl,List.eq_nil_of_length_eq_zero h0⟩
 ·refine .inr ⟨g,0,cap,rfl,hn,hc,(Array.getElem?_eq_some_iff.1 hg).1,fun i hi j hj=>?_⟩;have h1:=flatMap_at enc size hs l i j hi hj;have h2:(enc l[i])[j]? =some ((enc l[i]).getD j undef):=by
   rw [List.getD,List.getElem?_eq_getElem (by rw [hs];exact hj)];rfl
  rw [h2] at h1;have h3:=h.cells (g:=g) rfl (i*size+j) _ h1;have hadd:(⟨g,0,none⟩:Addr).add (i*size+j)=⟨g,0+i*size+j,none⟩:=by
   rw [Addr.add_lit];simp
  rwa [hadd] at h3
theorem owns_below {base:Nat} {e:TypeId} {size:Nat} {w w':World} {v:Value} {n:Nat} {xs:List Value} (h:w.ownsRow base e size v n xs) (hb:Below w.heap.size w w'):w'.ownsRow base e size v n xs:=
 h.kept (row:=none) ⟨hb.os,hb.tape,hb.output,hb.size,fun k hk _=>hb.block k hk⟩ (by cases v.ownBlock<;>simp)
theorem index_nat (s:ByteArray) (i:Int) (k:Nat) (h:k<s.size) (e:i=(k:Int)) (W:World):(Instr.index 9 (.string s) (.int .i64 i)).run Tryz.prog W=.ok (.int .u8 s[k].toNat) W:=by
 subst e;rw [run_index_string W 9 s .i64 k Tryz.underlying9];simp [h]
theorem slice_nat (s:ByteArray) (i j:Int) (a b:Nat) (hab:a≤b) (hb:b≤s.size) (ei:i=(a:Int)) (ej:j=(b:Int)) (W:World):
  (Instr.slice 9 (.string s) (some (.int .i64 i)) (some (.int .i64 j)) none).run Tryz.prog W=.ok (.string (s.extract a b)) W:=by
 subst ei;subst ej;rw [run_slice_string W 9 s .i64 .i64 a b Tryz.underlying9 (by omega) (by omega) (by omega)];simp
theorem slice_from (s:ByteArray) (i:Int) (a:Nat) (ha:a≤s.size) (ei:i=(a:Int)) (W:World):
  (Instr.slice 9 (.string s) (some (.int .i64 i)) none none).run Tryz.prog W=.ok (.string (s.extract a s.size)) W:=by
 subst ei;rw [run_slice_string_l W 9 s Tryz.underlying9 .i64 a (by omega) (by omega)];simp
theorem slice_to (s:ByteArray) (j:Int) (b:Nat) (hb:b≤s.size) (ej:j=(b:Int)) (W:World):
  (Instr.slice 9 (.string s) none (some (.int .i64 j)) none).run Tryz.prog W=.ok (.string (s.extract 0 b)) W:=by
 subst ej;rw [run_slice_string_h W 9 s Tryz.underlying9 .i64 b (by omega) (by omega)];simp
theorem Tryz.sizeBuilder:(Tryz.prog.info? 118).map (·.size)=some 2:=by kernel_rfl
theorem Tryz.liesBuilder:liesAt Tryz.prog Tryz.prog.depth 118 (2/Tryz.prog.cellsOf 118) 0 118 1=true:=by kernel_rfl
theorem Tryz.infoByte:(Tryz.prog.info? 5).map (fun i=>(i.zero,i.size,i.bytes))=some (some (.int .u8 0),1,1):=by kernel_rfl
abbrev IsB (B b:Nat) (bs:List Value) (w:World):Prop:=Lib.IsBuilder 118 5 B b bs w
abbrev BAt (B b:Nat) (bs:List Value) (w:World):Prop:=Lib.BuilderAt 118 5 B b (.pointer (some ⟨b,0,none⟩)) bs w
theorem copyCheck_used (b:Nat) (w:World) (h0:w.cell? ⟨b,0,none⟩=some (.pointer (some ⟨b,0,none⟩))):
  Calls Tryz.prog 106 #[.pointer (some ⟨b,0,none⟩)] w fun e w'=>e=.returned (.tuple #[])∧w'=w:=by
 obtain ⟨j,hj,_⟩:=Option.map_eq_some_iff.1 Tryz.sizeBuilder;go_enter Tryz.func106,Tryz.ntmps106
 go_wp2
 rw [Lib.run_neq_ptr_same w _ Tryz.underlying116 hj]
 go_wp2
 go_end0
 exact ⟨rfl,rfl⟩
theorem copyCheck_fresh (b:Nat) (w:World) (h0:w.cell? ⟨b,0,none⟩=some (.pointer none)) (hsh:w.shape? b=some (118,2)) (hfz:w.frozen? ⟨b,0,none⟩=false):
  Calls Tryz.prog 106 #[.pointer (some ⟨b,0,none⟩)] w fun e w'=>e=.returned (.tuple #[])∧w'=w.setCell ⟨b,0,none⟩ (.pointer (some ⟨b,0,none⟩)):=by
 obtain ⟨j,hj,hjs⟩:=Option.map_eq_some_iff.1 Tryz.sizeBuilder;go_enter Tryz.func106,Tryz.ntmps106
 go_wp2
 rw [Lib.run_to_unsafe w ⟨b,0,none⟩ Tryz.underlying116 Tryz.underlying93 hj (by rw [hjs];decide) hsh (Nat.zero_lt_succ 1)];simp only [Result.andThen];rw [Oper.upon_value]
 go_wp2
 rw [run_callFunc_extern Tryz.func143 (by kernel_rfl) (by kernel_rfl) (by kernel_rfl) (e:=Extern.AbiNoEscape.same) (by kernel_rfl)];rw [Lib.run_noEscape];simp only [Result.andThen];rw [Oper.upon_value]
 go_wp2
 rw [Lib.run_from_unsafe w ⟨b,0,none⟩ Tryz.underlying93 Tryz.underlying116 hj hsh Tryz.liesBuilder];simp only [Result.andThen];rw [Oper.upon_value]
 go_wp2
 go_end0
 exact ⟨rfl,rfl⟩
theorem isB_drewN {B b:Nat} {bs:List Value} {w:World} (h:IsB B b bs w) (n:Nat):IsB B b bs (w.drewN n):=h
theorem isB_below {B b:Nat} {bs:List Value} {w w':World} (hb:Below w.heap.size w w') (h:IsB B b bs w):IsB B b bs w':=by
 have hg:w.grownBy w' none:=⟨hb.os,hb.tape,hb.output,hb.size,fun k hk _=>hb.block k hk⟩;have key:∀p,Lib.BuilderAt 118 5 B b p bs w→Lib.BuilderAt 118 5 B b p bs w':=fun p ⟨h1,v,h2,h3,h4⟩=>
  ⟨h1,v,by rw [hb.block b (Array.getElem?_eq_some_iff.1 h2).1];exact h2,h3.kept hg (by cases v.ownBlock<;>simp),h4⟩
 exact h.imp (key _) (key _)
theorem copyCheck_any (B b:Nat) (bs:List Value) (w:World) (h:IsB B b bs w):
  Calls Tryz.prog 106 #[.pointer (some ⟨b,0,none⟩)] w fun e w'=>e=.returned (.tuple #[])∧BAt B b bs w'∧Below B w w':=by
 rcases h with h|h
 ·refine (copyCheck_fresh b w h.cell0 h.shape h.frozen0).mono ?_;rintro e w' ⟨rfl,rfl⟩;exact ⟨rfl,h.used _,(Below.refl B w).setCell (p:=⟨b,0,none⟩) h.1 _⟩
 ·refine (copyCheck_used b w h.cell0).mono ?_;rintro e w' ⟨rfl,rfl⟩;exact ⟨rfl,h,Below.refl B _⟩
theorem writeByte_any (B b:Nat) (bs:List Value) (c:Int) (w:World) (h:IsB B b bs w) (hlen:bs.length+1≤140737488355328) (hBw:B≤w.heap.size):
  Calls Tryz.prog 264 #[.pointer (some ⟨b,0,none⟩),.int .u8 c] w fun e w'=>e=.returned .nilIface∧BAt B b (bs++[.int .u8 c]) w'∧Below B w w':=by
 obtain ⟨i0,hi,hz0,hz1,hz2⟩:=info_parts Tryz.infoByte;go_enter Tryz.func264,Tryz.ntmps264;go_wp2_with (go_at_call 106;refine (copyCheck_any B b bs _ h).mono ?_);rintro e w1 ⟨rfl,h1,hb1⟩;obtain ⟨hB,v,hbk,hown,hne⟩:=h1;have c0:w1.cell? ⟨b,0,none⟩=some (.pointer (some ⟨b,0,none⟩)):=by rw [Lib.cell_of_heap hbk];rfl
 have c1:w1.cell? ⟨b,1,none⟩=some v:=by rw [Lib.cell_of_heap hbk];rfl
 go_wp2_with (at_builtin;refine wpList_append_own _ rfl _ _ 77 rfl B 5 i0 (.int .u8 0) 1 1 Tryz.underlying77 hi hz0 hz1 hz2 rfl (by decide) _ _ _ rfl (hown.alloc _) ⟨w1.heap.size,0,none⟩ 1 1 [.int .u8 c] rfl rfl ?c1 ?c2 ?c3 ?c4 ?c5 ?_)
 case c1=>
  intro j u hj
  match j,hj with
  |0,hj=>simp at hj;subst hj;simp [Addr.add]
 case c2=>intro u hu;simp at hu;subst hu;rfl
 case c3=>unfold maxLen;omega
 case c4=>omega
 case c5=>have:=hb1.size;simp;omega
 intro v' w2 hown' hgrow _;have hlt:b<w1.heap.size:=(Array.getElem?_eq_some_iff.1 hbk).1;have hb2:w2.heap[b]? =some (.cells #[.pointer (some ⟨b,0,none⟩),v] 118 (0,0)):=by
  rw [hgrow.block b (by simp;omega) (fun e=>hne e.symm),Lib.alloc_old w1 _ b hlt];exact hbk
 have d0:w2.cell? ⟨b,0,none⟩=some (.pointer (some ⟨b,0,none⟩)):=by rw [Lib.cell_of_heap hb2];rfl
 have d1:w2.cell? ⟨b,1,none⟩=some v:=by rw [Lib.cell_of_heap hb2];rfl
 have f1:w2.frozen? ⟨b,1,none⟩=false:=Lib.frozen_of_heap hb2 1;obtain ⟨g,cap,rfl⟩:∃g cap,v'=.slice (some ⟨g,0,none⟩) (bs.length+1) cap:=by
  rcases hown'.2 with ⟨_,h0⟩|⟨g,cap,cur,hv,_⟩
  ·omega
  ·exact ⟨g,cap,hv⟩
 go_wp2
 go_ret;refine ⟨rfl,?_,?_⟩
 ·exact Lib.BuilderAt.put (T:=118) (e:=5) hB hb2 (bs':=bs++[.int .u8 c]) (by simpa using hown') (by decide)
 ·exact ((hb1.alloc (by have:=hb1.size;omega) _).grown hgrow (by have:=hb1.size;simp;omega) (fun k hk=>(hown.lt k hk).1)).setCell (p:=⟨b,1,none⟩) hB _
theorem writeString_any (B b:Nat) (bs:List Value) (s:ByteArray) (w:World) (h:IsB B b bs w) (hlen:bs.length+s.size≤140737488355328) (hBw:B≤w.heap.size):
  Calls Tryz.prog 70 #[.pointer (some ⟨b,0,none⟩),.string s] w fun e w'=>e=.returned (.tuple #[.int .i64 s.size,.nilIface])∧BAt B b (bs++Lib.strCells s) w'∧Below B w w':=by
 obtain ⟨i0,hi,hz0,hz1,hz2⟩:=info_parts Tryz.infoByte;go_enter Tryz.func70,Tryz.ntmps70;go_wp2_with (go_at_call 106;refine (copyCheck_any B b bs _ h).mono ?_);rintro e w1 ⟨rfl,h1,hb1⟩;obtain ⟨hB,v,hbk,hown,hne⟩:=h1;have c0:w1.cell? ⟨b,0,none⟩=some (.pointer (some ⟨b,0,none⟩)):=by rw [Lib.cell_of_heap hbk];rfl
 have c1:w1.cell? ⟨b,1,none⟩=some v:=by rw [Lib.cell_of_heap hbk];rfl
 go_wp2_with (at_builtin;refine Lib.wpList_append_own_string _ rfl _ _ 77 9 rfl B 5 i0 Tryz.underlying77 Tryz.underlying9 hi hz0 hz1 hz2 _ _ _ rfl hown s rfl ?c3 ?c4 ?c5 ?_)
 case c3=>unfold maxLen;omega
 case c4=>omega
 case c5=>have:=hb1.size;omega
 intro v' w2 hown' hgrow _;have hlt:b<w1.heap.size:=(Array.getElem?_eq_some_iff.1 hbk).1;have hb2:w2.heap[b]? =some (.cells #[.pointer (some ⟨b,0,none⟩),v] 118 (0,0)):=by
  rw [hgrow.block b hlt (fun e=>hne e.symm)];exact hbk
 have d0:w2.cell? ⟨b,0,none⟩=some (.pointer (some ⟨b,0,none⟩)):=by rw [Lib.cell_of_heap hb2];rfl
 have d1:w2.cell? ⟨b,1,none⟩=some v:=by rw [Lib.cell_of_heap hb2];rfl
 have f1:w2.frozen? ⟨b,1,none⟩=false:=Lib.frozen_of_heap hb2 1;obtain ⟨ao,n',cap,rfl⟩:∃ao n' cap,v'=.slice ao n' cap:=by
  rcases hown'.2 with ⟨hv,_⟩|⟨g,cap,cur,hv,_⟩
  ·exact ⟨_,_,_,hv⟩
  ·exact ⟨_,_,_,hv⟩
 go_wp2
 go_ret2;refine ⟨rfl,?_,?_⟩
 ·exact Lib.BuilderAt.put (T:=118) (e:=5) hB hb2 (bs':=bs++Lib.strCells s) (by simpa [Lib.strCells_length] using hown') (by decide)
 ·exact (hb1.grown hgrow (by have:=hb1.size;omega) (fun k hk=>(hown.lt k hk).1)).setCell (p:=⟨b,1,none⟩) hB _
theorem isB_new (w:World) (B:Nat) (hB:B≤w.heap.size):IsB B w.heap.size [] (w.alloc (.cells #[.pointer none,.slice none 0 0] 118)):=
 .inl ⟨hB,.slice none 0 0,heap_alloc_new w _,World.ownsRow_nil _ _ _ _,by simp [Value.ownBlock]⟩
def BufAt (b:Nat) (v:Value) (w:World):Prop:=∃p,w.heap[b]? =some (.cells #[p,v] 118 (0,0))
theorem BufAt.same {b:Nat} {v v':Value} {w:World} (h:BufAt b v w) (h':BufAt b v' w):v=v':=by
 obtain ⟨p,h⟩:=h;obtain ⟨p',h'⟩:=h';rw [h] at h';injection h' with h'
 injection h' with h1 h2 h3
 have:=congrArg (fun a=>a[1]?) h1;simpa using this
def Apart (b k:Nat) (w:World):Prop:=k<w.heap.size∧k≠b∧∀v,BufAt b v w→v.ownBlock≠some k
theorem apart_new {B b:Nat} {bs:List Value} {w w':World} {k:Nat} (h:IsB B b bs w) (hb:Below w.heap.size w w') (h1:w.heap.size≤k) (h2:k<w'.heap.size):Apart b k w':=by
 have key:∀p,Lib.BuilderAt 118 5 B b p bs w→Apart b k w':=by
  rintro p ⟨hB,v,hbk,hown,hne⟩;have hlt:b<w.heap.size:=(Array.getElem?_eq_some_iff.1 hbk).1;refine ⟨h2,by omega,fun v' hv'=>?_⟩;have:BufAt b v w':=⟨p,by rw [hb.block b hlt];exact hbk⟩;obtain rfl:=this.same hv';intro e;have:=(hown.lt k e).2;omega
 exact h.elim (key _) (key _)
theorem Apart.ext {b k:Nat} {bs:List Value} {B:Nat} {w w':World} (h:Apart b k w) (hB:IsB B b bs w) (hb:Below w.heap.size w w'):Apart b k w':=by
 have key:∀p,Lib.BuilderAt 118 5 B b p bs w→Apart b k w':=by
  rintro p ⟨_,v,hbk,_,_⟩;refine ⟨Nat.lt_of_lt_of_le h.1 hb.size,h.2.1,fun v' hv'=>?_⟩;have:BufAt b v w':=⟨p,by rw [hb.block b (Array.getElem?_eq_some_iff.1 hbk).1];exact hbk⟩;obtain rfl:=this.same hv';exact h.2.2 v ⟨p,hbk⟩
 exact hB.elim (key _) (key _)
theorem copyCheck_keep (B b:Nat) (bs:List Value) (w:World) (h:IsB B b bs w) (k:Nat) (hk:Apart b k w):
  Calls Tryz.prog 106 #[.pointer (some ⟨b,0,none⟩)] w fun e w'=>e=.returned (.tuple #[])∧BAt B b bs w'∧Below B w w'∧w'.heap[k]? =w.heap[k]?∧Apart b k w':=by
 rcases h with h|h
 ·refine (copyCheck_fresh b w h.cell0 h.shape h.frozen0).mono ?_;rintro e w' ⟨rfl,rfl⟩;refine ⟨rfl,h.used _,(Below.refl B w).setCell (p:=⟨b,0,none⟩) h.1 _,Below.heap_setCell _ _ _ _ hk.2.1,by simpa [World.setCell] using hk.1,hk.2.1,fun v hv=>?_⟩;obtain ⟨_,v0,hb0,_,_⟩:=h;have:BufAt b v0 (w.setCell ⟨b,0,none⟩ (.pointer (some ⟨b,0,none⟩))):=⟨.pointer (some ⟨b,0,none⟩),by simp [World.setCell,Array.getElem?_modify,hb0]⟩;obtain rfl:=this.same hv;exact hk.2.2 v0 ⟨_,hb0⟩
 ·refine (copyCheck_used b w h.cell0).mono ?_;rintro e w' ⟨rfl,rfl⟩;exact ⟨rfl,h,Below.refl B _,rfl,hk⟩
theorem writeString_keep (B b:Nat) (bs:List Value) (s:ByteArray) (w:World) (h:IsB B b bs w) (hlen:bs.length+s.size≤140737488355328) (hBw:B≤w.heap.size) (k:Nat) (hk:Apart b k w):
  Calls Tryz.prog 70 #[.pointer (some ⟨b,0,none⟩),.string s] w fun e w'=>e=.returned (.tuple #[.int .i64 s.size,.nilIface])∧BAt B b (bs++Lib.strCells s) w'∧Below B w w'∧w'.heap[k]? =w.heap[k]?:=by
 obtain ⟨i0,hi,hz0,hz1,hz2⟩:=info_parts Tryz.infoByte;go_enter Tryz.func70,Tryz.ntmps70;go_wp2_with (go_at_call 106;refine (copyCheck_keep B b bs _ h k hk).mono ?_);rintro e w1 ⟨rfl,h1,hb1,hk1,hk2⟩;obtain ⟨hB,v,hbk,hown,hne⟩:=h1;have c0:w1.cell? ⟨b,0,none⟩=some (.pointer (some ⟨b,0,none⟩)):=by rw [Lib.cell_of_heap hbk];rfl
 have c1:w1.cell? ⟨b,1,none⟩=some v:=by rw [Lib.cell_of_heap hbk];rfl
 go_wp2_with (at_builtin;refine Lib.wpList_append_own_string _ rfl _ _ 77 9 rfl B 5 i0 Tryz.underlying77 Tryz.underlying9 hi hz0 hz1 hz2 _ _ _ rfl hown s rfl ?c3 ?c4 ?c5 ?_)
 case c3=>unfold maxLen;omega
 case c4=>omega
 case c5=>have:=hb1.size;omega
 intro v' w2 hown' hgrow _;have hlt:b<w1.heap.size:=(Array.getElem?_eq_some_iff.1 hbk).1;have hb2:w2.heap[b]? =some (.cells #[.pointer (some ⟨b,0,none⟩),v] 118 (0,0)):=by
  rw [hgrow.block b hlt (fun e=>hne e.symm)];exact hbk
 have hkk:w2.heap[k]? =w.heap[k]?:=by
  rw [hgrow.block k hk2.1 (fun e=>hk2.2.2 v ⟨_,hbk⟩ e.symm)];exact hk1
 have d0:w2.cell? ⟨b,0,none⟩=some (.pointer (some ⟨b,0,none⟩)):=by rw [Lib.cell_of_heap hb2];rfl
 have d1:w2.cell? ⟨b,1,none⟩=some v:=by rw [Lib.cell_of_heap hb2];rfl
 have f1:w2.frozen? ⟨b,1,none⟩=false:=Lib.frozen_of_heap hb2 1;obtain ⟨ao,n',cap,rfl⟩:∃ao n' cap,v'=.slice ao n' cap:=by
  rcases hown'.2 with ⟨hv,_⟩|⟨g,cap,cur,hv,_⟩
  ·exact ⟨_,_,_,hv⟩
  ·exact ⟨_,_,_,hv⟩
 have HKK:=Lib.hid hkk;clear hk1 hkk
 go_wp2
 go_ret2;refine ⟨rfl,?_,?_,?_⟩
 ·exact Lib.BuilderAt.put (T:=118) (e:=5) hB hb2 (bs':=bs++Lib.strCells s) (by simpa [Lib.strCells_length] using hown') (by decide)
 ·exact (hb1.grown hgrow (by have:=hb1.size;omega) (fun k hk=>(hown.lt k hk).1)).setCell (p:=⟨b,1,none⟩) hB _
 ·exact (Below.heap_setCell _ _ _ _ hk2.2.1).trans HKK.out
def PowTab (w:World):Prop:=Lib.TabIs Tryz.prog w "internal/strconv.uint64pow10" .u64 Lib.pow10Tab
theorem var?_below {w w':World} (hb:Below w.heap.size w w') {n:String} {cs:Array Value} (h:w.var? Tryz.prog n=some cs):w'.var? Tryz.prog n=some cs:=by
 unfold World.var? at h⊢
 cases hg:Tryz.prog.globalNamed n with
 |none=>simp [hg] at h
 |some g=>
  simp only [hg,Option.bind_some] at h⊢;have hlt:g<w.heap.size:=by
   rcases Nat.lt_or_ge g w.heap.size with h'|h'
   ·exact h'
   ·simp [Array.getElem?_eq_none h'] at h
  rw [hb.block g hlt];exact h
theorem PowTab.ext {w w':World} (h:PowTab w) (hb:Below w.heap.size w w'):PowTab w':=var?_below hb h
theorem below_grow (w:World) (k:Nat) (os:Array Obj):Below w.heap.size w (Sort.grow (w.drewN k) os):=
 ⟨rfl,rfl,rfl,by show w.heap.size≤(w.heap++os).size;simp,fun i hi=>by show (w.heap++os)[i]? =_;rw [Array.getElem?_append,if_pos hi]⟩
theorem itoa_any (n:Nat) (hn:n≤9223372036854775807) (w:World) (ht:PowTab w):
  Calls Tryz.prog 79 #[.int .i64 n] w fun e w'=>∃t:ByteArray,e=.returned (.string t)∧Hid (bl t=Lib.decDigits n)∧t.size≤21∧Below w.heap.size w w':=by
 refine (Tryz.strconv_Itoa (n:Int) (by omega) (by omega) w ht).mono ?_;rintro e w' ⟨rfl,k,os,rfl⟩;have hs:(⟨(Lib.itoa (n:Int)).toArray⟩:ByteArray).size≤21:=by
  show ((Lib.itoa (n:Int)).toArray).size≤21;rw [List.size_toArray];exact Lib.itoa_length_le _ (by omega) (by omega)
 exact ⟨_,rfl,itoa_nat n,hs,below_grow w k os⟩
theorem flatMap_drop {α:Type} (enc:α→List Value) (size:Nat) (hs:∀x,(enc x).length=size):∀(l:List α) (i:Nat),(l.flatMap enc).drop (i*size)=(l.drop i).flatMap enc
 |l,0=>by simp
 | [],i+1=>by simp
 |x::l,i+1=>by
  rw [List.flatMap_cons,Nat.succ_mul,Nat.add_comm,←List.drop_drop,←hs x,List.drop_left,List.drop_succ_cons,hs x];exact flatMap_drop enc size hs l i
theorem flatMap_take {α:Type} (enc:α→List Value) (size:Nat) (hs:∀x,(enc x).length=size):∀(l:List α) (i:Nat),(l.flatMap enc).take (i*size)=(l.take i).flatMap enc
 |l,0=>by simp
 | [],i+1=>by simp
 |x::l,i+1=>by
  rw [List.flatMap_cons,Nat.succ_mul,Nat.add_comm,←hs x,List.take_length_add_append,List.take_succ_cons,List.flatMap_cons,hs x,flatMap_take enc size hs l i]
theorem own_news {α:Type} {enc:α→List Value} {size:Nat} (hs:∀x,(enc x).length=size) {w:World} {base b n cap:Nat} {e:TypeId} {l:List α} (h:w.ownsRow base e size (.slice (some ⟨b,0,none⟩) n cap) n (l.flatMap enc)) (i m o:Nat) (ho:m=0∨o=i*size):
  ∀j u,(((l.drop i).take m).flatMap enc)[j]? =some u→w.cell? ((⟨b,o,none⟩:Addr).add j)=some u:=by
 rcases ho with rfl|rfl
 ·intro j u hj;rw [List.take_zero] at hj;cases hj
 ·intro j u hj;rw [←flatMap_take enc size hs,←flatMap_drop enc size hs] at hj;have hjl:j<m*size:=by
   have:=(List.getElem?_eq_some_iff.1 hj).1;rw [List.length_take] at this;omega
  rw [List.getElem?_take_of_lt hjl,List.getElem?_drop] at hj;have:=h.cells (g:=b) rfl (i*size+j) u hj;rw [Addr.add_lit] at this⊢;rw [Nat.zero_add] at this;exact this
def Srcs (w:World) (size:Nat) (sv:Value) (m:Nat) (news:List Value):Prop:=
 (sv=.slice none 0 0∧m=0∧news=[])∨∃ad c,sv=.slice (some ad) m c∧news.length=m*size∧(∀j u,news[j]? =some u→w.cell? (ad.add j)=some u)∧∀u∈news,u.oneCell'=true
theorem wpList_append_src {P:Program} (w:World) {ops:Array Oper} {rest:List Oper} {o:Oper} {a:Act} {Q:Exit→Act→World→Prop} (hgd:o.guard=none) (s x:Operand) (t:TypeId)
  (ho:o.op=.call {callee:= .builtin .append,args:=#[s,x],argTypes:=#[t,t]})
  (base:Nat) (e:TypeId) (i:TypeInfo) (z:Value) (size bytes:Nat) (ht:P.underlying t=some (.slice e)) (hi:P.info? e=some i) (hz:i.zero=some z)
  (hsize:i.size=size) (hby:i.bytes=bytes) (hzs:z.cells.size=size) (hsz:0<size)
  (v:Value) (n:Nat) (xs:List Value) (hs:a.eval s=v) (hown:w.ownsRow base e size v n xs)
  (sv:Value) (m:Nat) (news:List Value) (hx:a.eval x=sv) (hsrc:Srcs w size sv m news)
  (h63:n+m≤maxLen) (hbytes:(n+m)*bytes≤140737488355328) (hbase:base≤w.heap.size)
  (h:∀v' w',w'.ownsRow base e size v' (n+m) (xs++news)→w.grownBy w' v.ownBlock→wpList P ops Q rest (a.put o.dst v') w'):wpList P ops Q (o::rest) a w:=by
 rcases hsrc with ⟨h1,h2,h3⟩|⟨ad,c,h1,h2,h3,h4⟩
 ·subst h2;subst h3;refine wpList_append_own_none hgd s x t ho base e i size ht hi v n xs hs hown (hx.trans h1) (h v w (by rw [List.append_nil];exact hown) ?_);exact ⟨rfl,rfl,rfl,Nat.le_refl _,fun _ _ _=>rfl⟩
 ·exact wpList_append_own w hgd s x t ho base e i z size bytes ht hi hz hsize hby hzs hsz v n xs hs hown ad m c news (hx.trans h1) h2 h3 h4 h63 hbytes hbase fun v' w' g1 g2 _=>h v' w' g1 g2
theorem oneCells {α:Type} {enc:α→List Value} (h1:∀x,∀u∈enc x,u.oneCell'=true) (l:List α):∀u∈l.flatMap enc,u.oneCell'=true:=fun u hu=>by
 obtain ⟨x,_,hx⟩:=List.mem_flatMap.1 hu;exact h1 x u hx
theorem Srcs.whole {α:Type} {enc:α→List Value} {size:Nat} (hs:∀x,(enc x).length=size) (h1:∀x,∀u∈enc x,u.oneCell'=true) {w:World} {v:Value} {l:List α} (h:Row enc size w v l):Srcs w size v l.length (l.flatMap enc):=by
 rcases h with ⟨rfl,rfl⟩|⟨b,off,cap,rfl,_,_,_,hc⟩
 ·exact .inl ⟨rfl,rfl,rfl⟩
 ·refine .inr ⟨_,cap,rfl,flatMap_len enc size hs l,fun j u hj=>?_,oneCells h1 l⟩;have hjl:=(List.getElem?_eq_some_iff.1 hj).1;rw [flatMap_len enc size hs] at hjl;have h0:0<size:=Nat.pos_of_ne_zero fun e=>by subst e;simp at hjl
  have hq:j/size<l.length:=Nat.div_lt_of_lt_mul (by rwa [Nat.mul_comm] at hjl);have hr:=Nat.mod_lt j h0;have e:=flatMap_at enc size hs l (j/size) (j%size) hq hr;rw [Nat.mul_comm,Nat.div_add_mod] at e;rw [Addr.add_lit];have:=hc (j/size) hq (j%size) hr;rw [show off+j=off+(j/size)*size+j%size by rw [Nat.mul_comm,Nat.add_assoc,Nat.div_add_mod]];rw [this,List.getD_eq_getElem?_getD,←e,hj];rfl
theorem Srcs.part {α:Type} {enc:α→List Value} {size:Nat} (hs:∀x,(enc x).length=size) (h1:∀x,∀u∈enc x,u.oneCell'=true) {w:World} {base b n cap:Nat} {e:TypeId} {l:List α} (h:w.ownsRow base e size (.slice (some ⟨b,0,none⟩) n cap) n (l.flatMap enc)) (hn:l.length=n) (i m o c:Nat) (him:i+m≤n) (ho:m=0∨o=i*size):
  Srcs w size (.slice (some ⟨b,o,none⟩) m c) m (((l.drop i).take m).flatMap enc):=
 .inr ⟨_,c,rfl,by rw [flatMap_len enc size hs,List.length_take,List.length_drop];congr 1;omega,own_news hs h i m o ho,oneCells h1 _⟩
theorem byte_any (c:Nat) (hc:c<256) (w:World):
  Calls Tryz.prog 61 #[.int .i64 c] w fun e w'=>∃t:ByteArray,e=.returned (.string t)∧Hid (bl t=[UInt8.ofNat c])∧Below w.heap.size w w':=by
 have hconv:(convert 77 9 (.slice (some ⟨w.heap.size,0,none⟩) 1 1)).run Tryz.prog (w.alloc (Obj.cells #[Value.int IntKind.u8 c] 5))=.ok (.string (strOfNums [(c:Int)])) (w.alloc (Obj.cells #[Value.int IntKind.u8 c] 5)):=
  run_convert_bytes_arg (w.alloc (Obj.cells #[Value.int IntKind.u8 c] 5)) 77 5 Tryz.underlying77 Tryz.underlying5 w.heap.size 0 1 1 [(c:Int)] rfl (fun i hi=>by
   obtain rfl:i=0:=by omega
   rw [World.cell?_alloc_at _ _ _ _ rfl];rfl) 9 Tryz.underlying9
 go_enter Tryz.func61,Tryz.ntmps61
 go_wp2
 clear hconv;go_ret;refine ⟨strOfNums [(c:Int)],rfl,?_,(Below.refl _ _).alloc (Nat.le_refl _) _⟩;show bl (strOfNums [(c:Int)])=_;exact (strOfNums_data _).trans (by simp)
theorem byte_int (i:Int) (c:Nat) (hi:i=(c:Int)) (hc:c<256) (w:World):
  Calls Tryz.prog 61 #[.int .i64 i] w fun e w'=>∃t:ByteArray,e=.returned (.string t)∧Hid (bl t=[UInt8.ofNat c])∧Below w.heap.size w w':=by
 subst hi;exact byte_any c hc w
theorem below_any:∀(n:Nat) (_:n≤9223372036854775807) (w:World),
  Calls Tryz.prog 27 #[.int .i64 (-(n:Int))] w fun e w'=>∃t:ByteArray,e=.returned (.string t)∧Hid (bl t=Lib.decDigits n)∧Below w.heap.size w w':=by
 intro n;induction n using Nat.strongRecOn with
 |_ n ih=>
  intro hn w;by_cases h10:n<10
  ·have hd: -10< -(n:Int):=by omega
   have HD:=Lib.hid (decDigits_small h10);clear ih;go_enter Tryz.func27,Tryz.ntmps27;go_wp2_with fail;refine (byte_int _ (48+n) (by omega) (by omega) _).mono ?_;rintro e w' ⟨t,rfl,HT,hb⟩;go_wp2_with fail;go_ret;exact ⟨t,rfl,by rw [HD.out];exact HT,hb⟩
  ·have hd:¬(-10< -(n:Int)):=by omega
   have HD:=Lib.hid (decDigits_step h10);have h1:=ih (n/10) (by omega) (by omega);have H1:=Lib.hid h1;clear ih h1;go_enter Tryz.func27,Tryz.ntmps27;go_wp2_with fail;refine ((show Calls Tryz.prog _ #[.int .i64 (-((n:Int)/10))] w _ from by have:=H1.out w;rwa [show (((n/10:Nat)):Int)=(n:Int)/10 from by omega] at this)).mono ?_;rintro e w1 ⟨t1,rfl,HT1,hb1⟩;go_wp2_with fail;refine (byte_int _ (48+n%10) (by omega) (by omega) _).mono ?_;rintro e w2 ⟨t2,rfl,HT2,hb2⟩;have hs1:t1.size≤21:=by
    rw [←bl_length,HT1.out];exact decDigits_len _ (by omega)
   have hs2:t2.size=1:=by rw [←bl_length,HT2.out];rfl
   have HS2:=Lib.hid hs2;have hs3:t2.size≤1:=by omega
   clear hs2;go_wp2_with fail;go_ret;exact ⟨t1++t2,rfl,by rw [HD.out];show bl (t1++t2)=_;rw [bl_append,HT1.out,HT2.out],hb1.trans (hb2.mono hb1.size)⟩
theorem decimal_any (n:Nat) (hn:n≤9223372036854775807) (w:World):
  Calls Tryz.prog 19 #[.int .i64 n] w fun e w'=>∃t:ByteArray,e=.returned (.string t)∧Hid (bl t=Lib.decDigits n)∧t.size≤21∧Below w.heap.size w w':=by
 go_enter Tryz.func19,Tryz.ntmps19;go_wp2_with fail;refine (below_any n hn w).mono ?_;rintro e w1 ⟨t1,rfl,HT1,hb1⟩;have hs1:t1.size≤21:=by rw [←bl_length,HT1.out];exact decDigits_len _ hn
 go_wp2_with fail;go_ret;exact ⟨t1,rfl,HT1,hs1,hb1⟩
theorem strCut_len (l sep:List UInt8):(Lib.cut l sep).1.length≤l.length∧(Lib.cut l sep).2.1.length≤l.length:=by
 unfold Lib.cut;split
 ·constructor
  ·simp;omega
  ·simp
 ·simp
theorem strCut_any (s sep:ByteArray) (w:World) (hs:s.size≤100000000) (hm:∃m,w.cell? ⟨14,0,none⟩=some (.int .i64 m)):
  Calls Tryz.prog 109 #[.string s,.string sep] w fun e w'=>
   (∃(a b:ByteArray) (c:Bool),e=.returned (.tuple #[.string a,.string b,.bool c])∧Hid (Lib.cut (bl s) (bl sep)=(bl a,bl b,c))∧a.size≤s.size∧b.size≤s.size)∧Below w.heap.size w w':=by
 obtain ⟨m,hm⟩:=hm;refine (Tryz.strings_Cut s sep m w (by omega) hm).mono ?_;rintro e w' ⟨rfl,n,rfl⟩;have h:=strCut_len (bl s) (bl sep);rw [bl_length] at h;exact ⟨⟨_,_,_,rfl,rfl,by rw [←bl_length];exact h.1,by rw [←bl_length];exact h.2⟩,below_drewN _ _ _⟩
theorem step_append_own {P:Program} {ops:Array Oper} {o:Oper} {a:Act} {w:World} {K:Act→World→Prop} {Q:Exit→Act→World→Prop} {E:Prop}
  (hg:o.guard=none) (s x:Operand) (t:TypeId) (hop:o.op=Op.call {callee:=Callee.builtin Builtin.append,args:=#[s,x],argTypes:=#[t,t]})
  (base:Nat) (e:TypeId) (i:TypeInfo) (z:Value) (size bytes:Nat) (h1:P.underlying t=some (.slice e)) (h2:P.info? e=some i) (h3:i.zero=some z) (h4:i.size=size) (h5:i.bytes=bytes) (h6:z.cells.size=size) (h7:0<size)
  (v:Value) (k:Nat) (xs:List Value) (hs:a.eval s=v) (hown:w.ownsRow base e size v k xs) (ad:Addr) (m c:Nat) (news:List Value) (hx:a.eval x=.slice (some ad) m c) (hn:news.length=m*size)
  (hc:∀j u,news[j]? =some u→w.cell? (ad.add j)=some u) (h1c:∀u∈news,u.oneCell'=true) (b1:k+m≤maxLen) (b2:(k+m)*bytes≤140737488355328) (b3:base≤w.heap.size)
  (hK:∀v' w',w'.ownsRow base e size v' (k+m) (xs++news)→w.grownBy w' v.ownBlock→K (a.put o.dst v') w'):
  if Region.wanted o (yielded ops a.tmps)=true then Oper.wp P o a w K Q else E:=by
 have hw:Region.wanted o (yielded ops a.tmps)=true:=by simp [Region.wanted,hg]
 rw [if_pos hw];obtain ⟨v',w',hrun,r1,r2,r3⟩:=run_append_own (P:=P) w base t o.type e i z size bytes h1 h2 h3 h4 h5 h6 h7 v k xs hown ad m c news hn hc h1c b1 b2 b3;unfold Oper.wp;simp [execOp,hop,resolve,invoke,builtin,hs,hx,hrun,Result.andThen];exact hK v' w' r1 r2
end Go.Proofs.YtaabgmbjmfjdjaaGreatDoor
