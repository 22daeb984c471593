import Derived.Sort.LotA
import Derived.Test.YtaabgmbjmfjdjaaGreatDoorJToldEtc
import Derived.Shelf.SlSortCmp.KitK
import Derived.BigRegion
import Derived.Shelf.SlSortCmp.QuietGrown
namespace Go.Proofs.YtaabgmbjmfjdjaaGreatDoor
open Go Go.Sort Go.RowKit
set_option maxHeartbeats 2000000
set_option maxRecDepth 100000
variable {α:Type} [Inhabited α]
def RotIn (a m b:Nat) (d d':Array α):Prop:=
 d'.size=d.size∧∀p,d'[p]! =if a≤p∧p<a+(b-m) then d[p+(m-a)]! else if a+(b-m)≤p∧p<b then d[p- (b-m)]! else d[p]!
theorem RotIn.left {a b:Nat} (d:Array α):RotIn a a b d d:=⟨rfl,fun p=>by
 repeat' split
 all_goals first|rfl|(exfalso;omega)|(congr 1;omega)⟩
theorem RotIn.right {a b:Nat} (_:a≤b) (d:Array α):RotIn a b b d d:=⟨rfl,fun p=>by
 repeat' split
 all_goals first|rfl|(exfalso;omega)|(congr 1;omega)⟩
def SwapsIn (a b n:Nat) (d d':Array α):Prop:=
 d'.size=d.size∧∀p,d'[p]! =if a≤p∧p<a+n then d[p+(b-a)]! else if b≤p∧p<b+n then d[p- (b-a)]! else d[p]!
theorem SwapsIn.zero (a b:Nat) (d:Array α):SwapsIn a b 0 d d:=⟨rfl,fun p=>by
 repeat' split
 all_goals first|rfl|(exfalso;omega)|(congr 1;omega)⟩
theorem SwapsIn.step {a b n:Nat} {d d':Array α} (h:SwapsIn a b n d d') (hab:a+n<b) (hb:b+n<d.size):SwapsIn a b (n+1) d (swp d' (a+n) (b+n)):=by
 refine ⟨by rw [swp_size];exact h.1,fun p=>?_⟩;rw [swp_get d' (by rw [h.1];omega) (by rw [h.1];omega)];simp only [h.2]
 repeat' split
 all_goals first|rfl|(exfalso;omega)|(congr 1;omega)
theorem RotIn.long {i j m:Nat} {d d1 d2:Array α} (hs:SwapsIn (m-i) m j d d1) (hi:j<i) (him:i≤m) (h:RotIn (m- (i-j)) m (m+j) d1 d2):RotIn (m-i) m (m+j) d d2:=by
 refine ⟨h.1.trans hs.1,fun p=>?_⟩;rw [h.2];simp only [hs.2]
 repeat' split
 all_goals first|rfl|(exfalso;omega)|(congr 1;omega)
theorem RotIn.short {i j m:Nat} {d d1 d2:Array α} (hs:SwapsIn (m-i) (m+j-i) i d d1) (hi:i<j) (him:i≤m) (h:RotIn (m-i) m (m+(j-i)) d1 d2):RotIn (m-i) m (m+j) d d2:=by
 refine ⟨h.1.trans hs.1,fun p=>?_⟩;rw [h.2];simp only [hs.2]
 repeat' split
 all_goals first|rfl|(exfalso;omega)|(congr 1;omega)
theorem RotIn.even {i m:Nat} {d d1:Array α} (hs:SwapsIn (m-i) m i d d1) (him:i≤m):RotIn (m-i) m (m+i) d d1:=by
 refine ⟨hs.1,fun p=>?_⟩;simp only [hs.2]
 repeat' split
 all_goals first|rfl|(exfalso;omega)|(congr 1;omega)
variable {lt:α→α→Bool}
theorem sorted_join {a m b:Nat} {d:Array α} (h1:SortedIn lt a m d) (h2:SortedIn lt m b d) (hx:∀i j,a≤i→i<m→m≤j→j<b→lt d[j]! d[i]! =false):SortedIn lt a b d:=by
 intro i j hi hij hj;by_cases c1:j<m
 ·exact h1 i j hi hij c1
 ·by_cases c2:m≤i
  ·exact h2 i j c2 hij hj
  ·exact hx i j hi (by omega) (by omega) hj
theorem sorted_none {a b:Nat} (h:b≤a) (d:Array α):SortedIn lt a b d:=fun i j hi hij hj=>by omega
theorem sorted_part {a b a' b':Nat} {d:Array α} (h:SortedIn lt a b d) (ha:a≤a') (hb:b'≤b):SortedIn lt a' b' d:=fun i j hi hij hj=>h i j (by omega) hij (by omega)
theorem sorted_le (hS:SWO lt) {a b:Nat} {d:Array α} (h:SortedIn lt a b d) {i j:Nat} (hi:a≤i) (hij:i≤j) (hj:j<b):lt d[j]! d[i]! =false:=by
 by_cases e:i=j
 ·subst e;exact hS.irrefl _
 ·exact h i j hi (by omega) hj
theorem sym_halves (hS:SWO lt) {a m b mid s e:Nat} {d d':Array α} (h1:SortedIn lt a m d) (h2:SortedIn lt m b d) (hr:RotIn s m e d d')
  (q1:a≤s) (q2:s≤m) (q3:m≤e) (q4:e≤b) (q5:s+(e-m)=mid)
  (hL:s=a∨e=b∨lt d[e]! d[s-1]! =false) (hR:e=m∨s=m∨lt d[s]! d[e-1]! =false):
  SortedIn lt a s d'∧SortedIn lt s mid d'∧SortedIn lt mid e d'∧SortedIn lt e b d'∧∀i j,a≤i→i<mid→mid≤j→j<b→lt d'[j]! d'[i]! =false:=by
 have g1:∀p,p<s→d'[p]! =d[p]!:=fun p hp=>by rw [hr.2,if_neg (show ¬(s≤p∧p<s+(e-m)) by omega),if_neg (show ¬(s+(e-m)≤p∧p<e) by omega)]
 have g2:∀p,s≤p→p<mid→d'[p]! =d[p+(m-s)]!:=fun p hp hq=>by rw [hr.2,if_pos (show (s≤p∧p<s+(e-m)) by omega)]
 have g3:∀p,mid≤p→p<e→d'[p]! =d[p- (e-m)]!:=fun p hp hq=>by rw [hr.2,if_neg (show ¬(s≤p∧p<s+(e-m)) by omega),if_pos (show (s+(e-m)≤p∧p<e) by omega)]
 have g4:∀p,e≤p→d'[p]! =d[p]!:=fun p hp=>by rw [hr.2,if_neg (show ¬(s≤p∧p<s+(e-m)) by omega),if_neg (show ¬(s+(e-m)≤p∧p<e) by omega)]
 refine ⟨fun i j hi hij hj=>?_,fun i j hi hij hj=>?_,fun i j hi hij hj=>?_,fun i j hi hij hj=>?_,fun i j hi hi2 hj hj2=>?_⟩
 ·rw [g1 i (by omega),g1 j hj];exact h1 i j hi hij (by omega)
 ·rw [g2 i hi (by omega),g2 j (by omega) hj];exact h2 _ _ (by omega) (by omega) (by omega)
 ·rw [g3 i hi (by omega),g3 j (by omega) hj];exact h1 _ _ (by omega) (by omega) (by omega)
 ·rw [g4 i hi,g4 j (by omega)];exact h2 _ _ (by omega) hij hj
 ·by_cases ci:i<s
  ·rw [g1 i ci];by_cases cj:j<e
   ·rw [g3 j hj cj];exact sorted_le hS h1 hi (by omega) (by omega)
   ·rw [g4 j (by omega)];rcases hL with h|h|h
    ·omega
    ·omega
    ·have a1:=sorted_le hS h2 (i:=e) (j:=j) q3 (by omega) hj2;have a2:=sorted_le hS h1 (i:=i) (j:=s-1) hi (by omega) (by omega);exact hS.ntrans _ _ _ a1 (hS.ntrans _ _ _ h a2)
  ·rw [g2 i (by omega) hi2];by_cases cj:j<e
   ·rw [g3 j hj cj];rcases hR with h|h|h
    ·omega
    ·omega
    ·have a1:=sorted_le hS h1 (i:=s) (j:=j- (e-m)) q1 (by omega) (by omega);have a2:=sorted_le hS h2 (i:=i+(m-s)) (j:=e-1) (by omega) (by omega) (by omega);exact hS.ntrans _ _ _ a1 (hS.ntrans _ _ _ h a2)
   ·rw [g4 j (by omega)];exact sorted_le hS h2 (by omega) (by omega) hj2
theorem up_sorted (hS:SWO lt) {a i b:Nat} {d d':Array α} (h2:SortedIn lt (a+1) b d) (hr:RotIn a (a+1) i d d') (q1:a+1≤i) (q2:i≤b)
  (hL:i=a+1∨lt d[i-1]! d[a]! =true) (hR:i=b∨lt d[i]! d[a]! =false):SortedIn lt a b d':=by
 have g1:∀p,a≤p→p<i-1→d'[p]! =d[p+1]!:=fun p hp hq=>by rw [hr.2,if_pos (show (a≤p∧p<a+(i- (a+1))) by omega)];congr 1;omega
 have g2:d'[i-1]! =d[a]!:=by rw [hr.2,if_neg (show ¬(a≤i-1∧i-1<a+(i- (a+1))) by omega),if_pos (show (a+(i- (a+1))≤i-1∧i-1<i) by omega)];congr 1;omega
 have g3:∀p,i≤p→d'[p]! =d[p]!:=fun p hp=>by rw [hr.2,if_neg (show ¬(a≤p∧p<a+(i- (a+1))) by omega),if_neg (show ¬(a+(i- (a+1))≤p∧p<i) by omega)]
 intro x y hx hxy hy;by_cases cy:y<i-1
 ·rw [g1 x hx (by omega),g1 y (by omega) cy];exact h2 _ _ (by omega) (by omega) (by omega)
 ·by_cases cy2:y=i-1
  ·subst cy2;rw [g2,g1 x hx (by omega)];rcases hL with h|h
   ·omega
   ·exact hS.ntrans _ _ _ (hS.asymmA h) (sorted_le hS h2 (i:=x+1) (j:=i-1) (by omega) (by omega) (by omega))
  ·rw [g3 y (by omega)];by_cases cx:x<i-1
   ·rw [g1 x hx cx];exact h2 _ _ (by omega) (by omega) hy
   ·by_cases cx2:x=i-1
    ·subst cx2;rw [g2];rcases hR with h|h
     ·omega
     ·exact hS.ntrans _ _ _ (sorted_le hS h2 (i:=i) (j:=y) (by omega) (by omega) hy) h
    ·rw [g3 x (by omega)];exact h2 _ _ (by omega) hxy hy
theorem down_sorted (hS:SWO lt) {a i m:Nat} {d d':Array α} (h1:SortedIn lt a m d) (hr:RotIn i m (m+1) d d') (q1:a≤i) (q2:i≤m)
  (hL:i=a∨lt d[m]! d[i-1]! =false) (hR:i=m∨lt d[m]! d[i]! =true):SortedIn lt a (m+1) d':=by
 have g1:∀p,p<i→d'[p]! =d[p]!:=fun p hp=>by rw [hr.2,if_neg (show ¬(i≤p∧p<i+(m+1-m)) by omega),if_neg (show ¬(i+(m+1-m)≤p∧p<m+1) by omega)]
 have g2:d'[i]! =d[m]!:=by rw [hr.2,if_pos (show (i≤i∧i<i+(m+1-m)) by omega)];congr 1;omega
 have g3:∀p,i<p→p≤m→d'[p]! =d[p-1]!:=fun p hp hq=>by rw [hr.2,if_neg (show ¬(i≤p∧p<i+(m+1-m)) by omega),if_pos (show (i+(m+1-m)≤p∧p<m+1) by omega)];congr 1;omega
 intro x y hx hxy hy;by_cases cx:x<i
 ·rw [g1 x cx];by_cases cy:y<i
  ·rw [g1 y cy];exact h1 _ _ hx hxy (by omega)
  ·by_cases cy2:y=i
   ·subst cy2;rw [g2];rcases hL with h|h
    ·omega
    ·exact hS.ntrans _ _ _ h (sorted_le hS h1 (i:=x) (j:=y-1) hx (by omega) (by omega))
   ·rw [g3 y (by omega) (by omega)];exact h1 _ _ hx (by omega) (by omega)
 ·by_cases cx2:x=i
  ·subst cx2;rw [g2,g3 y (by omega) (by omega)];rcases hR with h|h
   ·omega
   ·exact hS.ntrans _ _ _ (sorted_le hS h1 (i:=x) (j:=y-1) q1 (by omega) (by omega)) (hS.asymmA h)
  ·rw [g3 x (by omega) (by omega),g3 y (by omega) (by omega)];exact h1 _ _ (by omega) (by omega) (by omega)
theorem RotIn.up {a i:Nat} {d d':Array α} (h:RotIn a (a+1) (i+1) d d') (hi:a≤i) (hs:i+1<d.size):RotIn a (a+1) (i+2) d (swp d' i (i+1)):=by
 refine ⟨by rw [swp_size];exact h.1,fun p=>?_⟩;rw [swp_get d' (by rw [h.1];omega) (by rw [h.1];omega)];simp only [h.2]
 repeat' split
 all_goals first|rfl|(exfalso;omega)|(congr 1;omega)
theorem RotIn.down {i m:Nat} {d d':Array α} (h:RotIn (i+1) m (m+1) d d') (hi:i<m) (hs:m<d.size):RotIn i m (m+1) d (swp d' (i+1) i):=by
 refine ⟨by rw [swp_size];exact h.1,fun p=>?_⟩;rw [swp_get d' (by rw [h.1];omega) (by rw [h.1];omega)];simp only [h.2]
 repeat' split
 all_goals first|rfl|(exfalso;omega)|(congr 1;omega)
section
open Go.Lib
instance :Inhabited FileB:=⟨⟨⟨#[]⟩,false,⟨#[]⟩⟩⟩
abbrev SWF (w0:World) (blk off:Nat) (d:Array FileB) (W:World):Prop:=SWK encFile 3 w0 blk off d W
abbrev RowF (w0:World) (blk off:Nat) (d0:Array FileB):Prop:=RowK encFile 3 w0 blk off d0
theorem SWK.files {w0 W:World} {blk off:Nat} {d0 dk:Array FileB} (S:SWF w0 blk off dk W) (R:RowF w0 blk off d0) (hs:dk.size=d0.size) (i:Nat) (hi:i<dk.size):
  (W.cell? ⟨blk,off+i*3,none⟩=some (.string dk[i]!.path)∧W.cell? ⟨blk,off+i*3+1,none⟩=some (.bool dk[i]!.run)∧W.cell? ⟨blk,off+i*3+2,none⟩=some (.string dk[i]!.text))∧
  W.frozen? ⟨blk,off+i*3,none⟩=false∧W.frozen? ⟨blk,off+i*3+1,none⟩=false∧W.frozen? ⟨blk,off+i*3+2,none⟩=false:=by
 have hH:=S.holds R.hblk R.hH hs;have hc:=HoldsK.cells hH R.hk hi;have hz:∀j,j<3→i*3+j<(flatK encFile 3 dk).size:=fun j hj=>by rw [size_flatK];omega
 refine ⟨⟨?_,?_,?_⟩,?_,?_,?_⟩
 ·have:=hc 0 (.string dk[i]!.path) rfl;exact this
 ·have:=hc 1 (.bool dk[i]!.run) rfl;exact this
 ·have:=hc 2 (.string dk[i]!.text) rfl;exact this
 ·have:=(hH (i*3) (hz 0 (by omega))).2;exact this
 ·have:=(hH (i*3+1) (hz 1 (by omega))).2;exact this
 ·have:=(hH (i*3+2) (hz 2 (by omega))).2;exact this
theorem six_cells (w:World) (b o1 o2:Nat) (v1 v2 v3 u1 u2 u3:Value):(w.drew.setCells b o1 [v1,v2,v3]).setCells b o2 [u1,u2,u3]=
  ((((((w.setCell ⟨b,o1,none⟩ v1).setCell ⟨b,o1+1,none⟩ v2).setCell ⟨b,o1+2,none⟩ v3).setCell ⟨b,o2,none⟩ u1).setCell ⟨b,o2+1,none⟩ u2).setCell ⟨b,o2+2,none⟩ u3).drew:=by
 simp only [World.setCells,World.setCell_drew,Nat.add_assoc,Nat.reduceAdd]
def PermAll (a b:Nat) (d d':Array FileB):Prop:=∀lo hi,lo≤a→b≤hi→hi≤d.size→PermIn lo hi d d'
theorem PermAll.refl (a b:Nat) (d:Array FileB):PermAll a b d d:=fun lo hi _ _ _=>permIn_refl d lo hi
theorem PermAll.trans {a b:Nat} {d d' d'':Array FileB} (h:PermAll a b d d') (k:PermAll a b d' d'') (hs:d'.size=d.size):PermAll a b d d'':=fun lo hi h1 h2 h3=>permIn_trans d d' d'' lo hi (h lo hi h1 h2 h3) (k lo hi h1 h2 (by rw [hs];exact h3))
def SwapPost (w0:World) (blk off a b n:Nat) (d:Array FileB) (e:Ending) (w':World):Prop:=
 e=.returned (.tuple #[])∧∃d',SWF w0 blk off d' w'∧SwapsIn a b n d d'∧PermAll a (b+n) d d'
theorem swapRange_any (fv:Value) (blk off cap a b n:Nat) (d0 d:Array FileB) (w0 w:World) (R:RowF w0 blk off d0) (hs:d.size=d0.size) (S:SWF w0 blk off d w) (hab:a+n≤b) (hb:b+n≤d.size) (hsz:d.size<4611686018427387904):
  Calls Tryz.prog 259 #[.slice (some ⟨blk,off,none⟩) d.size cap,.int .i64 a,.int .i64 b,.int .i64 n,fv] w (SwapPost w0 blk off a b n d):=by
 have S0:=Lib.hid S;have HR:=Lib.hid R;have HS:=Lib.hid hs;clear S R hs;go_enter Tryz.func259,Tryz.ntmps259;go_wp2_with fail
 go_loopg [10] n (fun g1 vi wr=>∃(i:Nat) (dk:Array FileB),vi=.int .i64 i∧i≤n∧n-i≤g1∧dk.size=d.size∧Hid (SWF w0 blk off dk wr)∧Hid (SwapsIn a b i d dk)∧Hid (PermAll a (b+n) d dk))
 case atStart=>exact ⟨0,d,rfl,Nat.zero_le _,Nat.le_refl _,rfl,S0,SwapsIn.zero _ _ _,PermAll.refl _ _ _⟩
 case round=>
  clear S0;obtain ⟨i,dk,rfl,hi,hg,hdk,S1,H1,H2⟩:=hrel;by_cases hlt:i<n
  ·have ea:((a:Int)+(i:Int)).toNat=a+i:=by omega
   have pa:(0:Int)≤(a:Int)+(i:Int):=by omega
   have ba:(a:Int)+(i:Int)<(d.size:Int):=by omega
   have ra:IntKind.i64.wrap ((a:Int)+(i:Int))=(a:Int)+(i:Int):=by rw [IntKind.wrap_i64];omega
   have eb:((b:Int)+(i:Int)).toNat=b+i:=by omega
   have pb:(0:Int)≤(b:Int)+(i:Int):=by omega
   have bb:(b:Int)+(i:Int)<(d.size:Int):=by omega
   have rb:IntKind.i64.wrap ((b:Int)+(i:Int))=(b:Int)+(i:Int):=by rw [IntKind.wrap_i64];omega
   have hsk:dk.size=d0.size:=hdk.trans HS.out;have S2:=Lib.hid (S1.out.swapped HR.out (a+i) (b+i) (by omega) (by omega));obtain ⟨⟨x0,x1,x2⟩,x3,x4,x5⟩:=SWK.files (W:=wr) S1.out HR.out hsk (a+i) (by omega);obtain ⟨⟨y0,y1,y2⟩,y3,y4,y5⟩:=SWK.files (W:=wr) S1.out HR.out hsk (b+i) (by omega);have H3:=Lib.hid (H1.out.step (by omega) (by omega));have H4:Hid (PermAll a (b+n) d (swp dk (a+i) (b+i))):=H2.out.trans (fun lo hi h1 h2 h3=>swp_permIn dk lo hi (a+i) (b+i) (by omega) (by omega) (by omega) (by omega) h3) hdk;have H5:Hid ((swp dk (a+i) (b+i)).size=d.size):=by show _=_;rw [swp_size];exact hdk
   unfold encFile at S2;rw [six_cells] at S2;generalize dk[a+i]! =fI at S2 x0 x1 x2;generalize dk[b+i]! =fJ at S2 y0 y1 y2;clear S1 H1 H2 hsk;go_wp2_with fail;go_big_region;clear x0 x1 x2 x3 x4 x5 y0 y1 y2 y3 y4 y5;go_wp2_with fail;go_roundg (n- (i+1))
   case measure=>omega
   case rel=>exact ⟨i+1,_,by go_num,by omega,Nat.le_refl _,H5.out,S2,H3,H4⟩
  ·obtain rfl:i=n:=by omega
   go_wp2_with fail
   go_end0
   exact ⟨rfl,dk,S1.out,H1.out,H2.out⟩
end
section
open Go.Lib
def RotPost (w0:World) (blk off a m b:Nat) (d:Array FileB) (e:Ending) (w':World):Prop:=
 e=.returned (.tuple #[])∧∃d',SWF w0 blk off d' w'∧RotIn a m b d d'∧PermAll a b d d'
theorem rotate_any (fv:Value) (blk off cap a m b:Nat) (d0 d:Array FileB) (w0 w:World) (R:RowF w0 blk off d0) (hs:d.size=d0.size) (S:SWF w0 blk off d w) (ham:a<m) (hmb:m<b) (hb:b≤d.size) (hsz:d.size<4611686018427387904):
  Calls Tryz.prog 252 #[.slice (some ⟨blk,off,none⟩) d.size cap,.int .i64 a,.int .i64 m,.int .i64 b,fv] w (RotPost w0 blk off a m b d):=by
 have S0:=Lib.hid S;have HR:=Lib.hid R;have HS:=Lib.hid hs;clear S R hs;have e1:(m:Int)- (a:Int)=((m-a:Nat):Int):=by omega
 have e2:(b:Int)- (m:Int)=((b-m:Nat):Int):=by omega
 have E1:=Lib.hid e1;have E2:=Lib.hid e2;clear e1 e2;go_enter Tryz.func252,Tryz.ntmps252;go_wp2_with fail
 go_loopg [10,11] (m-a+(b-m)) (fun g1 vi vj wr=>∃(i j:Nat) (dk:Array FileB),vi=.int .i64 i∧vj=.int .i64 j∧0<i∧0<j∧i≤m-a∧j≤b-m∧i+j≤g1∧dk.size=d.size∧Hid (SWF w0 blk off dk wr)∧Hid (∀d2,RotIn (m-i) m (m+j) dk d2→RotIn a m b d d2)∧Hid (PermAll a b d dk))
 case atStart=>exact ⟨m-a,b-m,d,by rw [E1.out],by rw [E2.out],by omega,by omega,Nat.le_refl _,Nat.le_refl _,Nat.le_refl _,rfl,S0,(fun d2 h=>by
  rw [show m- (m-a)=a by omega,show m+(b-m)=b by omega] at h;exact h),PermAll.refl _ _ _⟩
 case round=>
  clear S0 E1 E2;obtain ⟨i,j,dk,rfl,rfl,hi0,hj0,hi,hj,hg,hdk,S1,H1,H2⟩:=hrel;have hsk:dk.size=d0.size:=hdk.trans HS.out;by_cases hne:i=j
  ·subst hne;have C:=Lib.hid (swapRange_any fv blk off cap (m-i) m i d0 dk w0 wr HR.out hsk S1.out (by omega) (by omega) (by omega));have q1:(m:Int)- (i:Int)=((m-i:Nat):Int):=by omega
   rw [hdk] at C;have hbne:((i:Int) != (i:Int))=false:=by simp
   rw [←q1] at C;clear q1;go_wp2_with fail;refine C.out.mono ?_;rintro e w2 ⟨rfl,d1,S2,G1,G2⟩;have S2:=Lib.hid S2;have F1:=Lib.hid (H1.out d1 (RotIn.even G1 (by omega)));have F2:Hid (PermAll a b d d1):=H2.out.trans (fun lo hi h1 h2 h3=>G2 lo hi (by omega) (by omega) h3) hdk;clear G1 G2 C S1 H1 H2;go_wp2_with fail
   go_end0
   exact ⟨rfl,d1,S2.out,F1.out,F2.out⟩
  ·have hbne:((i:Int) != (j:Int))=true:=by simp;omega
   by_cases hij:j<i
   ·have C:=Lib.hid (swapRange_any fv blk off cap (m-i) m j d0 dk w0 wr HR.out hsk S1.out (by omega) (by omega) (by omega));have q1:(m:Int)- (i:Int)=((m-i:Nat):Int):=by omega
    rw [hdk,←q1] at C;clear q1;go_wp2_with fail;refine C.out.mono ?_;rintro e w2 ⟨rfl,d1,S2,G1,G2⟩;have S2:=Lib.hid S2;have hd1:d1.size=d.size:=G1.1.trans hdk;have F1:Hid (∀d2,RotIn (m- (i-j)) m (m+j) d1 d2→RotIn a m b d d2):=fun d2 h=>H1.out d2 (RotIn.long G1 hij (by omega) h)
    have F2:Hid (PermAll a b d d1):=H2.out.trans (fun lo hi h1 h2 h3=>G2 lo hi (by omega) (by omega) h3) hdk;clear G1 G2 C S1 H1 H2;go_wp2_with fail;go_roundg (i-j+j)
    case measure=>omega
    case rel=>exact ⟨i-j,j,d1,by rw [show (i:Int)- (j:Int)=((i-j:Nat):Int) by omega],rfl,by omega,hj0,by omega,hj,Nat.le_refl _,hd1,S2,F1,F2⟩
   ·have C:=Lib.hid (swapRange_any fv blk off cap (m-i) (m+j-i) i d0 dk w0 wr HR.out hsk S1.out (by omega) (by omega) (by omega));have q1:(m:Int)- (i:Int)=((m-i:Nat):Int):=by omega
    have q2:(m:Int)+(j:Int)- (i:Int)=((m+j-i:Nat):Int):=by omega
    rw [hdk,←q1,←q2] at C;clear q1 q2;go_wp2_with fail;refine C.out.mono ?_;rintro e w2 ⟨rfl,d1,S2,G1,G2⟩;have S2:=Lib.hid S2;have hd1:d1.size=d.size:=G1.1.trans hdk;have F1:Hid (∀d2,RotIn (m-i) m (m+(j-i)) d1 d2→RotIn a m b d d2):=fun d2 h=>H1.out d2 (RotIn.short G1 (by omega) (by omega) h)
    have F2:Hid (PermAll a b d d1):=H2.out.trans (fun lo hi h1 h2 h3=>G2 lo hi (by omega) (by omega) h3) hdk;clear G1 G2 C S1 H1 H2;go_wp2_with fail;go_roundg (i+(j-i))
    case measure=>omega
    case rel=>exact ⟨i,j-i,d1,rfl,by rw [show (j:Int)- (i:Int)=((j-i:Nat):Int) by omega],hi0,by omega,hi,by omega,Nat.le_refl _,hd1,S2,F1,F2⟩
end
section
open Go.Lib
def MergePost (w0:World) (blk off:Nat) (lt:FileB→FileB→Bool) (a b:Nat) (d:Array FileB) (e:Ending) (w':World):Prop:=
 e=.returned (.tuple #[])∧∃d',SWF w0 blk off d' w'∧PermAll a b d d'∧SortedIn lt a b d'
theorem symMerge_up (cf:FileB→FileB→Int) (g:Nat) (cb:Array Value) (eg:∀args w,(callFunc g args).run Tryz.prog w=.ok (.enter g args) w) (hO:SWO (ltOf cf)) (blk off cap a b:Nat) (d0 d:Array FileB) (w0 w:World)
  (hC:CmpLays Tryz.prog g cb encFile 3 cf blk off d0.size w0) (R:RowF w0 blk off d0) (hs:d.size=d0.size) (S:SWF w0 blk off d w) (hab:a+1<b) (hb:b≤d.size) (hsz:d.size<4611686018427387904) (h2:SortedIn (ltOf cf) (a+1) b d):
  Calls Tryz.prog 241 #[.slice (some ⟨blk,off,none⟩) d.size cap,.int .i64 a,.int .i64 ((a:Int)+1),.int .i64 b,.func (.func g) #[] cb] w (MergePost w0 blk off (ltOf cf) a b d):=by
 have S0:=Lib.hid S;have HR:=Lib.hid R;have HS:=Lib.hid hs;have HC:Aside _:=hC;have HO:=Lib.hid hO;have H2:=Lib.hid h2;have mixed:Tryz.prog.follows .mixedOrders=true:=by kernel_rfl
 have q1:(((a:Int)+1)- (a:Int)==1)=true:=by simp;omega
 clear S R hs hC hO h2;go_enter Tryz.func241,Tryz.ntmps241;go_wp2_with fail
 go_loopg [10,11] (b- (a+1)) (fun g1 vi vj wr=>∃(i j:Nat),vi=.int .i64 i∧vj=.int .i64 j∧a+1≤i∧i≤j∧j≤b∧j-i≤g1∧Hid (SWF w0 blk off d wr)∧Hid (i=a+1∨ltOf cf d[i-1]! d[a]! =true)∧Hid (j=b∨ltOf cf d[j]! d[a]! =false))
 case atStart=>exact ⟨a+1,b,by go_num,rfl,Nat.le_refl _,by omega,Nat.le_refl _,Nat.le_refl _,S0,.inl rfl,.inl rfl⟩
 case round=>
  clear S0;obtain ⟨i,j,rfl,rfl,hi,hij,hj,hg,S1,H3,H4⟩:=hrel;by_cases hlt:i<j
  ·obtain ⟨q,hq⟩:∃q,(i+j)/2=q:=⟨_,rfl⟩;have eq1:((i:Int)+(j:Int))/2=(q:Int):=by omega
   have EQ:=Lib.hid eq1;have e1:(((i:Int)+(j:Int))/2).toNat=q:=by omega
   have p1:(0:Int)≤((i:Int)+(j:Int))/2:=by omega
   have b1:((i:Int)+(j:Int))/2<(d.size:Int):=by omega
   have ba:(a:Int)<(d.size:Int):=by omega
   have hqi:i≤q:=by omega
   have hqj:q<j:=by omega
   have lx:∀n os,_:=fun n os=>(SWK.files (S1.out.grown n os) HR.out HS.out q (by omega)).1
   have ly:∀n os,_:=fun n os=>(SWK.files (S1.out.grown n os) HR.out HS.out a (by omega)).1
   have lx0:=fun n os=>(lx n os).1
   have lx1:=fun n os=>(lx n os).2.1
   have lx2:=fun n os=>(lx n os).2.2
   have ly0:=fun n os=>(ly n os).1
   have ly1:=fun n os=>(ly n os).2.1
   have ly2:=fun n os=>(ly n os).2.2
   have hc:∀n os,_:=fun n os=>S1.out.cmp HC.out HS.out d[q]! d[a]! n os
   have HCM:=Lib.hid hc;clear lx ly hc hq eq1;by_cases hv:cf d[q]! d[a]!<0
   ·have H5:Hid (ltOf cf d[q]! d[a]! =true):=decide_eq_true hv;have H6:Hid (q+1=a+1∨ltOf cf d[q+1-1]! d[a]! =true):= .inr H5.out;generalize d[q]! =fq at lx0 lx1 lx2 HCM hv;generalize d[a]! =fa at ly0 ly1 ly2 HCM hv;clear H3;go_wp2_with fail;go_quiet_grown (first|(go_at_fn g;refine Calls.grown_of (HCM.out _ _)));have S2:=Lib.hid (S1.out.grown nq osq);generalize grow (wr.drewN nq) osq=wv at S2⊢;clear lx0 lx1 lx2 ly0 ly1 ly2 HCM S1;go_wp2_with fail;go_roundg (j- (q+1))
    case measure=>omega
    case rel=>exact ⟨q+1,j,by rw [EQ.out];go_num,rfl,by omega,by omega,hj,Nat.le_refl _,S2,H6,H4⟩
   ·have H5:Hid (q=b∨ltOf cf d[q]! d[a]! =false):= .inr (decide_eq_false hv);have hvf:decide (cf d[q]! d[a]!<0)=false:=decide_eq_false hv;generalize d[q]! =fq at lx0 lx1 lx2 HCM hv hvf;generalize d[a]! =fa at ly0 ly1 ly2 HCM hv hvf;clear H4;go_wp2_with fail;go_quiet_grown (first|(go_at_fn g;refine Calls.grown_of (HCM.out _ _)));have S2:=Lib.hid (S1.out.grown nq osq);generalize grow (wr.drewN nq) osq=wv at S2⊢;clear lx0 lx1 lx2 ly0 ly1 ly2 HCM S1;go_wp2_with fail;go_roundg (q-i)
    case measure=>omega
    case rel=>exact ⟨i,q,rfl,by rw [EQ.out],hi,hqi,by omega,Nat.le_refl _,S2,H3,H5⟩
  ·obtain rfl:i=j:=by omega
   have im1:(i:Int)-1=((i-1:Nat):Int):=by omega
   have IM:=Lib.hid im1;clear im1;go_wp2_with fail
   go_loopg [13] (i-1-a) (fun g1 vk wr=>∃(k:Nat) (dk:Array FileB),vk=.int .i64 k∧a≤k∧k≤i-1∧i-1-k≤g1∧dk.size=d.size∧Hid (SWF w0 blk off dk wr)∧Hid (RotIn a (a+1) (k+1) d dk)∧Hid (PermAll a b d dk))
   case atStart=>exact ⟨a,d,rfl,Nat.le_refl _,by omega,Nat.le_refl _,rfl,S1,RotIn.right (by omega) d,PermAll.refl _ _ _⟩
   case round=>
    clear S1;obtain ⟨k,dk,rfl,hk,hki,hg2,hdk,S1,G1,G2⟩:=hrel;by_cases hkl:k<i-1
    ·have hlt2:(k:Int)<(i:Int)-1:=by omega
     have hsk:dk.size=d0.size:=hdk.trans HS.out;have bk:(k:Int)<(d.size:Int):=by omega
     have e2:((k:Int)+1).toNat=k+1:=by omega
     have p2:(0:Int)≤(k:Int)+1:=by omega
     have b2:(k:Int)+1<(d.size:Int):=by omega
     have r2:IntKind.i64.wrap ((k:Int)+1)=(k:Int)+1:=by rw [IntKind.wrap_i64];omega
     have S2:=Lib.hid (S1.out.swapped HR.out k (k+1) (by omega) (by omega));obtain ⟨⟨x0,x1,x2⟩,x3,x4,x5⟩:=SWK.files (W:=wr) S1.out HR.out hsk k (by omega);obtain ⟨⟨y0,y1,y2⟩,y3,y4,y5⟩:=SWK.files (W:=wr) S1.out HR.out hsk (k+1) (by omega);have G3:Hid (RotIn a (a+1) (k+1+1) d (swp dk k (k+1))):=RotIn.up G1.out hk (by omega);have G4:Hid (PermAll a b d (swp dk k (k+1))):=G2.out.trans (fun lo hi h1 h2 h3=>swp_permIn dk lo hi k (k+1) (by omega) (by omega) (by omega) (by omega) h3) hdk;have G5:Hid ((swp dk k (k+1)).size=d.size):=by show _=_;rw [swp_size];exact hdk
     unfold encFile at S2;rw [six_cells] at S2;generalize dk[k]! =fI at S2 x0 x1 x2;generalize dk[k+1]! =fJ at S2 y0 y1 y2;clear S1 G1 G2 hsk;go_wp2_with fail;go_big_region;clear x0 x1 x2 x3 x4 x5 y0 y1 y2 y3 y4 y5;go_wp2_with fail;go_roundg (i-1- (k+1))
     case measure=>omega
     case rel=>exact ⟨k+1,_,by go_num,by omega,by omega,Nat.le_refl _,G5.out,S2,G3,G4⟩
    ·have hlt2:¬(k:Int)<(i:Int)-1:=by omega
     obtain rfl:k=i-1:=by omega
     have hfin:=up_sorted HO.out (i:=i) (b:=b) H2.out (by have:=G1.out;rwa [show i-1+1=i by omega] at this) hi hj H3.out H4.out;have HF:=Lib.hid hfin;clear hfin;go_wp2_with fail
     go_end0
     exact ⟨rfl,dk,S1.out,G2.out,HF.out⟩
theorem symMerge_down (cf:FileB→FileB→Int) (g:Nat) (cb:Array Value) (eg:∀args w,(callFunc g args).run Tryz.prog w=.ok (.enter g args) w) (hO:SWO (ltOf cf)) (blk off cap a m:Nat) (d0 d:Array FileB) (w0 w:World)
  (hC:CmpLays Tryz.prog g cb encFile 3 cf blk off d0.size w0) (R:RowF w0 blk off d0) (hs:d.size=d0.size) (S:SWF w0 blk off d w) (hab:a+1<m) (hb:m+1≤d.size) (hsz:d.size<4611686018427387904) (h1:SortedIn (ltOf cf) a m d):
  Calls Tryz.prog 241 #[.slice (some ⟨blk,off,none⟩) d.size cap,.int .i64 a,.int .i64 m,.int .i64 ((m:Int)+1),.func (.func g) #[] cb] w (MergePost w0 blk off (ltOf cf) a (m+1) d):=by
 have S0:=Lib.hid S;have HR:=Lib.hid R;have HS:=Lib.hid hs;have HC:Aside _:=hC;have HO:=Lib.hid hO;have H1:=Lib.hid h1;have mixed:Tryz.prog.follows .mixedOrders=true:=by kernel_rfl
 have q0:((m:Int)- (a:Int)==1)=false:=by simp;omega
 have q1:(((m:Int)+1)- (m:Int)==1)=true:=by simp;omega
 clear S R hs hC hO h1;go_enter Tryz.func241,Tryz.ntmps241;go_wp2_with fail
 go_loopg [14,15] (m-a) (fun g1 vi vj wr=>∃(i j:Nat),vi=.int .i64 i∧vj=.int .i64 j∧a≤i∧i≤j∧j≤m∧j-i≤g1∧Hid (SWF w0 blk off d wr)∧Hid (i=a∨ltOf cf d[m]! d[i-1]! =false)∧Hid (j=m∨ltOf cf d[m]! d[j]! =true))
 case atStart=>exact ⟨a,m,rfl,rfl,Nat.le_refl _,by omega,Nat.le_refl _,Nat.le_refl _,S0,.inl rfl,.inl rfl⟩
 case round=>
  clear S0;obtain ⟨i,j,rfl,rfl,hi,hij,hj,hg,S1,H3,H4⟩:=hrel;by_cases hlt:i<j
  ·obtain ⟨q,hq⟩:∃q,(i+j)/2=q:=⟨_,rfl⟩;have eq1:((i:Int)+(j:Int))/2=(q:Int):=by omega
   have EQ:=Lib.hid eq1;have e1:(((i:Int)+(j:Int))/2).toNat=q:=by omega
   have p1:(0:Int)≤((i:Int)+(j:Int))/2:=by omega
   have b1:((i:Int)+(j:Int))/2<(d.size:Int):=by omega
   have ba:(m:Int)<(d.size:Int):=by omega
   have hqi:i≤q:=by omega
   have hqj:q<j:=by omega
   have lx:∀n os,_:=fun n os=>(SWK.files (S1.out.grown n os) HR.out HS.out q (by omega)).1
   have ly:∀n os,_:=fun n os=>(SWK.files (S1.out.grown n os) HR.out HS.out m (by omega)).1
   have lx0:=fun n os=>(lx n os).1
   have lx1:=fun n os=>(lx n os).2.1
   have lx2:=fun n os=>(lx n os).2.2
   have ly0:=fun n os=>(ly n os).1
   have ly1:=fun n os=>(ly n os).2.1
   have ly2:=fun n os=>(ly n os).2.2
   have hc:∀n os,_:=fun n os=>S1.out.cmp HC.out HS.out d[m]! d[q]! n os
   have HCM:=Lib.hid hc;clear lx ly hc hq eq1;by_cases hv:cf d[m]! d[q]!<0
   ·have H5:Hid (q=m∨ltOf cf d[m]! d[q]! =true):= .inr (decide_eq_true hv);generalize d[q]! =fq at lx0 lx1 lx2 HCM hv;generalize d[m]! =fa at ly0 ly1 ly2 HCM hv;clear H4;go_wp2_with fail;go_quiet_grown (first|(go_at_fn g;refine Calls.grown_of (HCM.out _ _)));have S2:=Lib.hid (S1.out.grown nq osq);generalize grow (wr.drewN nq) osq=wv at S2⊢;clear lx0 lx1 lx2 ly0 ly1 ly2 HCM S1;go_wp2_with fail;go_roundg (q-i)
    case measure=>omega
    case rel=>exact ⟨i,q,rfl,by rw [EQ.out],hi,hqi,by omega,Nat.le_refl _,S2,H3,H5⟩
   ·have H5:Hid (q+1=a∨ltOf cf d[m]! d[q+1-1]! =false):= .inr (decide_eq_false hv);have hvf:decide (cf d[m]! d[q]!<0)=false:=decide_eq_false hv;generalize d[q]! =fq at lx0 lx1 lx2 HCM hv hvf;generalize d[m]! =fa at ly0 ly1 ly2 HCM hv hvf;clear H3;go_wp2_with fail;go_quiet_grown (first|(go_at_fn g;refine Calls.grown_of (HCM.out _ _)));have S2:=Lib.hid (S1.out.grown nq osq);generalize grow (wr.drewN nq) osq=wv at S2⊢;clear lx0 lx1 lx2 ly0 ly1 ly2 HCM S1;go_wp2_with fail;go_roundg (j- (q+1))
    case measure=>omega
    case rel=>exact ⟨q+1,j,by rw [EQ.out];go_num,rfl,by omega,by omega,hj,Nat.le_refl _,S2,H5,H4⟩
  ·obtain rfl:i=j:=by omega
   go_wp2_with fail
   go_loopg [17] (m-i) (fun g1 vk wr=>∃(k:Nat) (dk:Array FileB),vk=.int .i64 k∧i≤k∧k≤m∧k-i≤g1∧dk.size=d.size∧Hid (SWF w0 blk off dk wr)∧Hid (RotIn k m (m+1) d dk)∧Hid (PermAll a (m+1) d dk))
   case atStart=>exact ⟨m,d,rfl,by omega,Nat.le_refl _,Nat.le_refl _,rfl,S1,RotIn.left d,PermAll.refl _ _ _⟩
   case round=>
    clear S1;obtain ⟨k,dk,rfl,hk,hki,hg2,hdk,S1,G1,G2⟩:=hrel;by_cases hkl:i<k
    ·obtain ⟨k,rfl⟩:∃k',k=k'+1:=⟨k-1,by omega⟩;have hlt2:(i:Int)<(k:Int)+1:=by omega
     have hsk:dk.size=d0.size:=hdk.trans HS.out;have bk:(k:Int)<(d.size:Int):=by omega
     have e2:((k:Int)+1).toNat=k+1:=by omega
     have p2:(0:Int)≤(k:Int)+1:=by omega
     have b2:(k:Int)+1<(d.size:Int):=by omega
     have r2:IntKind.i64.wrap ((k:Int)+1)=(k:Int)+1:=by rw [IntKind.wrap_i64];omega
     have r3:IntKind.i64.wrap (k:Int)=(k:Int):=by rw [IntKind.wrap_i64];omega
     have S2:=Lib.hid (S1.out.swapped HR.out (k+1) k (by omega) (by omega));obtain ⟨⟨x0,x1,x2⟩,x3,x4,x5⟩:=SWK.files (W:=wr) S1.out HR.out hsk k (by omega);obtain ⟨⟨y0,y1,y2⟩,y3,y4,y5⟩:=SWK.files (W:=wr) S1.out HR.out hsk (k+1) (by omega);have G3:Hid (RotIn k m (m+1) d (swp dk (k+1) k)):=RotIn.down G1.out (by omega) (by omega);have G4:Hid (PermAll a (m+1) d (swp dk (k+1) k)):=G2.out.trans (fun lo hi h1 h2 h3=>swp_permIn dk lo hi (k+1) k (by omega) (by omega) (by omega) (by omega) h3) hdk;have G5:Hid ((swp dk (k+1) k).size=d.size):=by show _=_;rw [swp_size];exact hdk
     unfold encFile at S2;rw [six_cells] at S2;generalize dk[k]! =fI at S2 x0 x1 x2;generalize dk[k+1]! =fJ at S2 y0 y1 y2;clear S1 G1 G2 hsk;go_wp2_with fail;go_big_region;clear x0 x1 x2 x3 x4 x5 y0 y1 y2 y3 y4 y5;go_wp2_with fail;go_roundg (k-i)
     case measure=>omega
     case rel=>exact ⟨k,_,by go_num,by omega,by omega,Nat.le_refl _,G5.out,S2,G3,G4⟩
    ·have hlt2:¬(i:Int)<(k:Int):=by omega
     obtain rfl:k=i:=by omega
     have hfin:=down_sorted HO.out (i:=k) H1.out G1.out hi hj H3.out H4.out;have HF:=Lib.hid hfin;clear hfin;go_wp2_with fail
     go_end0
     exact ⟨rfl,dk,S1.out,G2.out,HF.out⟩
end
section
open Go.Lib
def SymAll (P:Program) (f g:Nat) (cb:Array Value) (lt:FileB→FileB→Bool) (w0:World) (blk off cap size n:Nat):Prop:=
 ∀(a m b:Nat) (d:Array FileB) (w:World),b-a≤n→a<m→m<b→b≤d.size→d.size=size→SWF w0 blk off d w→SortedIn lt a m d→SortedIn lt m b d→
  Calls P f #[.slice (some ⟨blk,off,none⟩) d.size cap,.int .i64 a,.int .i64 m,.int .i64 b,.func (.func g) #[] cb] w (MergePost w0 blk off lt a b d)
end
variable {α:Type} [Inhabited α] {lt:α→α→Bool}
theorem swo_asymm {β:Type} {lt:β→β→Bool} (h:SWO lt) {x y:β} (hx:lt x y=true):lt y x=false:=by
 cases hy:lt y x with
 |false=>rfl
 |true=>have:=h.trans _ _ _ hx hy;rw [h.irrefl] at this;cases this
theorem permIn_keeps {a b x y:Nat} {d d':Array α} (P:PermIn a b d d') (hx:y≤a∨b≤x) (h:SortedIn lt x y d):SortedIn lt x y d':=by
 intro i j hi hij hj;rw [P.2.1 i (by omega),P.2.1 j (by omega)];exact h i j hi hij hj
theorem sym_done {a b mid:Nat} {d1 d2 d3:Array α} (hb:b≤d1.size) (_:a≤mid) (h2:mid≤b)
  (X:∀i j,a≤i→i<mid→mid≤j→j<b→lt d1[j]! d1[i]! =false)
  (P2:PermIn a mid d1 d2) (T2:SortedIn lt a mid d2) (P3:PermIn mid b d2 d3) (T3:SortedIn lt mid b d3):SortedIn lt a b d3:=by
 have hb2:b≤d2.size:=by rw [P2.1];exact hb
 refine sorted_join (permIn_keeps P3 (.inl (Nat.le_refl _)) T2) T3 ?_;intro i j hi him hmj hj;have q:=permIn_all d1 d2 a mid (fun x=>∀j,mid≤j→j<b→lt d1[j]! x=false) (by omega) P2 (fun i hi him j hmj hj=>X i j hi him hmj hj) i hi him;have q2:=permIn_all d2 d3 mid b (fun y=>lt y d2[i]! =false) hb2 P3 (fun j hmj hj=>by rw [P2.2.1 j (.inr hmj)];exact q j hmj hj) j hmj hj;rw [P3.2.1 i (.inl him)];exact q2
variable {α:Type} [Inhabited α] {lt:α→α→Bool}
def BlkIn (lt:α→α→Bool) (bs n lo hi:Nat) (d:Array α):Prop:=∀x,bs∣x→lo≤x→x<hi→SortedIn lt x (min (x+bs) n) d
theorem BlkIn.none (lt:α→α→Bool) (bs n lo:Nat) (d:Array α):BlkIn lt bs n lo lo d:=fun x _ h1 h2=>absurd h2 (by omega)
theorem dvd_lt {bs x a:Nat} (h1:bs∣x) (h2:bs∣a) (h:x<a):x+bs≤a:=by
 obtain ⟨p,rfl⟩:=h1;obtain ⟨q,rfl⟩:=h2;have:p<q:=Nat.lt_of_mul_lt_mul_left h
 calc bs*p+bs=bs*(p+1):=by rw [Nat.mul_add,Nat.mul_one]
  _≤bs*q:=Nat.mul_le_mul_left _ this
theorem BlkIn.next {bs n a b:Nat} {d d':Array α} (h:BlkIn lt bs n 0 a d) (ha:bs∣a) (P:PermIn a b d d') (hs:SortedIn lt a b d') (hb:min (a+bs) n≤b) (hpos:0<bs):BlkIn lt bs n 0 (a+bs) d':=by
 intro x hx h1 h2;by_cases hlt:x<a
 ·have:=dvd_lt hx ha hlt;exact permIn_keeps P (.inl (by omega)) (h x hx h1 hlt)
 ·have:x=a:=by
   obtain ⟨p,rfl⟩:=hx;obtain ⟨q,rfl⟩:=ha;rcases Nat.lt_or_ge q p with hq|hq
   ·exfalso;have:=Nat.mul_le_mul_left bs (show q+1≤p from hq);rw [Nat.mul_add,Nat.mul_one] at this;omega
   ·have:p=q:=by
     refine Nat.le_antisymm hq ?_;rcases Nat.lt_or_ge p q with h3|h3
     ·exact absurd (Nat.mul_lt_mul_of_pos_left h3 hpos) hlt
     ·exact h3
    rw [this]
  subst this;exact sorted_part hs (Nat.le_refl _) hb
theorem BlkIn.rest {bs n a b:Nat} {d d':Array α} (h:BlkIn lt bs n a n d) (hab:a≤b) (P:PermIn a b d d'):BlkIn lt bs n b n d':=
 fun x hx h1 h2=>permIn_keeps P (.inr h1) (h x hx (by omega) h2)
end Go.Proofs.YtaabgmbjmfjdjaaGreatDoor
