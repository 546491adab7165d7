/- slices.Sorted at the keys of a map of texts. -/
import Derived.Test.YtjipcihcldngbaaGreatDoorIter
import Derived.Test.YtjipcihcldngbaaGreatDoorShAJ
namespace Go.Proofs.YtjipcihcldngbaaGreatDoor.replicaNils
open Go.RowKit Go.Maps Go.Sort Go.Shelf

theorem sorts112 (m : Nat) : AnyZ.SortsIn Tryz.prog Tryz.sorted112_ren Fence.wide m :=
  ⟨fun blk off cap ss W hH hblk hsz => callsIn_wide.2 (AnyM.slices_Sort_string Tryz.sort180 blk off cap ss W hH hblk hsz),
   fun p cap W => callsIn_wide.2 (AnyM.slices_Sort_string_none Tryz.sort180 p cap W)⟩

theorem at187 : Go.Sh.SortedAt Tryz.prog 112 187 9 where
  k9 := Tryz.underlying9
  call W Bm b nn D0 R hBm hm hown hmax hbytes := by
    have hseq : SeqGives Fence.wide 2 Tryz.prog 187 #[.pointer (some ⟨Bm, 0, none⟩)] encStr (fun ss => ss.Perm (strKeys D0)) (Maps.size D0) W :=
      AnyZ.keys_gives (ρ := Tryz.keys121_ren) { Tryz.keys121 with } Fence.wide _ trivial rfl (by omega) Bm b nn D0 _ hBm hm hown
    exact callsIn_wide.1 (AnyZ.sorted_in Tryz.sorted112 Fence.wide 5 trivial trivial trivial trivial rfl (by omega) (sorts112 _) (enters_of Tryz.func180 (by kernel_rfl) rfl) 187 #[.pointer (some ⟨Bm, 0, none⟩)] trivial (enters_of Tryz.func187 (by kernel_rfl) rfl) _ _ hmax hbytes _ hseq)

/-- What is known of calls. -/
def kn : Go.Sh.Kn := Go.Sh.sortedKn [187] 112 9
theorem kn_ok : Go.Sh.KnOk Tryz.prog Tryz.prog.globals.size kn := Go.Sh.sorted_known fun g hg => by
  rw [List.mem_singleton] at hg
  subst hg
  exact at187
end Go.Proofs.YtjipcihcldngbaaGreatDoor.replicaNils
