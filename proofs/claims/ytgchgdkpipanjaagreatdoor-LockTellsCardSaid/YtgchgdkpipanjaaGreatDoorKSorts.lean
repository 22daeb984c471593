/- The stable sort's exchanges: swapRangeCmpFunc, rotateCmpFunc at files: contracts. The stable sort's rotation at files: a contract. The stable sort's merging at files: symMergeCmpFunc where one side is of one element. The stable sort at files: what its merging is told of shorter parts. -/
import Derived.Test.YtgchgdkpipanjaaGreatDoorKSortPlainly
import Derived.Test.YtgchgdkpipanjaaGreatDoorKTreed
import Derived.Shelf.SlSortCmp.KitK
import Derived.BigRegion
import Derived.Shelf.SlSortCmp.QuietGrown
namespace Go.Proofs.YtgchgdkpipanjaaGreatDoor
open Go Go.RowKit Go.Lib Go.Sort

instance : Inhabited FileB := ⟨⟨⟨#[]⟩, false, ⟨#[]⟩⟩⟩
abbrev SWF (w0 : World) (blk off : Nat) (d : Array FileB) (W : World) : Prop := SWK encFile 3 w0 blk off d W
abbrev RowF (w0 : World) (blk off : Nat) (d0 : Array FileB) : Prop := RowK encFile 3 w0 blk off d0
theorem SWK.files {w0 W : World} {blk off : Nat} {d0 dk : Array FileB} (S : SWF w0 blk off dk W) (R : RowF w0 blk off d0) (hs : dk.size = d0.size) (i : Nat) (hi : i < dk.size) :
    (W.cell? ⟨blk, off + i * 3, none⟩ = some (.string dk[i]!.path) ∧ W.cell? ⟨blk, off + i * 3 + 1, none⟩ = some (.bool dk[i]!.run) ∧ W.cell? ⟨blk, off + i * 3 + 2, none⟩ = some (.string dk[i]!.text)) ∧
    W.frozen? ⟨blk, off + i * 3, none⟩ = false ∧ W.frozen? ⟨blk, off + i * 3 + 1, none⟩ = false ∧ W.frozen? ⟨blk, off + i * 3 + 2, none⟩ = false := by
  have hH := S.holds R.hblk R.hH hs
  have hc := HoldsK.cells hH R.hk hi
  have hz : ∀ j, j < 3 → i * 3 + j < (flatK encFile 3 dk).size := fun j hj => by rw [size_flatK]; omega
  refine ⟨⟨?_, ?_, ?_⟩, ?_, ?_, ?_⟩
  · have := hc 0 (.string dk[i]!.path) rfl; exact this
  · have := hc 1 (.bool dk[i]!.run) rfl; exact this
  · have := hc 2 (.string dk[i]!.text) rfl; exact this
  · have := (hH (i * 3) (hz 0 (by omega))).2; exact this
  · have := (hH (i * 3 + 1) (hz 1 (by omega))).2; exact this
  · have := (hH (i * 3 + 2) (hz 2 (by omega))).2; exact this
def PermAll (a b : Nat) (d d' : Array FileB) : Prop := ∀ lo hi, lo ≤ a → b ≤ hi → hi ≤ d.size → PermIn lo hi d d'
theorem PermAll.refl (a b : Nat) (d : Array FileB) : PermAll a b d d := fun lo hi _ _ _ => permIn_refl d lo hi
theorem PermAll.trans {a b : Nat} {d d' d'' : Array FileB} (h : PermAll a b d d') (k : PermAll a b d' d'') (hs : d'.size = d.size) : PermAll a b d d'' := fun lo hi h1 h2 h3 => permIn_trans d d' d'' lo hi (h lo hi h1 h2 h3) (k lo hi h1 h2 (by rw [hs]; exact h3))
end Go.Proofs.YtgchgdkpipanjaaGreatDoor

namespace Go.Proofs.YtgchgdkpipanjaaGreatDoor
open Go Go.RowKit Go.Lib Go.Sort

end Go.Proofs.YtgchgdkpipanjaaGreatDoor

namespace Go.Proofs.YtgchgdkpipanjaaGreatDoor
open Go Go.RowKit Go.Lib Go.Sort

end Go.Proofs.YtgchgdkpipanjaaGreatDoor

namespace Go.Proofs.YtgchgdkpipanjaaGreatDoor
open Go Go.RowKit Go.Lib Go.Sort

end Go.Proofs.YtgchgdkpipanjaaGreatDoor
