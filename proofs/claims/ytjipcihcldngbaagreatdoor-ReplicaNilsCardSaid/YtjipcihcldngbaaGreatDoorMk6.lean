/- Calls that are known, 6. -/
import Derived.Test.YtjipcihcldngbaaGreatDoorProg
import Derived.Test.YtjipcihcldngbaaGreatDoorKeys
import Derived.KernelRfl
namespace Go.Proofs.YtjipcihcldngbaaGreatDoor.replicaNils
open Go Go.Sh
set_option maxRecDepth 1000000

def c6 : Cut where
  f := 31
  args := [.pointer (some ⟨758, 0, none⟩), .agg #[.int .i64 1, .int .i32 0, .int .i64 2, .int .i64 0, .int .i32 1, .string ⟨#[47, 97]⟩, .slice none 0 0, .slice none 0 0, .int .i64 0, .int .i32 0, .int .i32 1, .bool false, .int .i64 0, .int .i64 0, .int .i64 0, .int .i32 0, .slice none 0 0, .slice none 0 0, .int .i32 0, .slice none 0 0]]
  nxt := 1305
  pre := [(745, .map [(.string ⟨#[47]⟩, .agg #[.string ⟨#[47]⟩, .slice none 0 0, .slice (some ⟨754, 0, none⟩) 1 CAPX, .int .i64 0, .int .i64 0, .int .i64 0, .int .i64 0, .int .i64 0, .int .i64 0, .int .i64 0, .int .i64 0, .int .i32 0, .int .i32 0, .int .i32 0, .bool false, .int .i64 0, .int .i64 0], 0)] 1), (746, .map [] 0), (747, .cells [.map (some 745), .map (some 746)] 213), (754, .row [.int .i32 31, .string ⟨#[119, 111, 114, 108, 100]⟩, .string ⟨#[97, 110, 121, 111, 110, 101]⟩] 245 3), (755, .map [(.int .i64 1, .agg #[.int .i64 1, .int .i32 10, .slice none 0 0], 0)] 1), (756, .cells [.map (some 755)] 227), (758, .cells [.pointer (some ⟨747, 0, none⟩), .pointer (some ⟨756, 0, none⟩), .int .i64 1] 130)]
  e := .ret (.int .i64 0)
  nxt' := 1465
  post := [(745, .map [(.string ⟨#[47]⟩, .agg #[.string ⟨#[47]⟩, .slice none 0 0, .slice (some ⟨1464, 0, none⟩) 1 CAPX, .int .i64 0, .int .i64 0, .int .i64 0, .int .i64 2, .int .i64 0, .int .i64 0, .int .i64 0, .int .i64 0, .int .i32 0, .int .i32 1, .int .i32 0, .bool false, .int .i64 0, .int .i64 0], 0), (.string ⟨#[47, 97]⟩, .agg #[.string ⟨#[47, 97]⟩, .slice none 0 0, .slice none 0 0, .int .i64 0, .int .i64 2, .int .i64 2, .int .i64 2, .int .i64 0, .int .i64 0, .int .i64 0, .int .i64 0, .int .i32 0, .int .i32 0, .int .i32 0, .bool false, .int .i64 0, .int .i64 0], 1)] 2), (746, .map [(.string ⟨#[47]⟩, .map (some 1448), 0)] 1), (747, .cells [.map (some 745), .map (some 746)] 213), (754, .row [.int .i32 31, .string ⟨#[119, 111, 114, 108, 100]⟩, .string ⟨#[97, 110, 121, 111, 110, 101]⟩] 245 3), (755, .map [(.int .i64 1, .agg #[.int .i64 1, .int .i32 10, .slice none 0 0], 0)] 1), (756, .cells [.map (some 755)] 227), (758, .cells [.pointer (some ⟨747, 0, none⟩), .pointer (some ⟨756, 0, none⟩), .int .i64 2] 130), (1448, .map [(.string ⟨#[97]⟩, .agg #[], 0)] 1), (1464, .row [.int .i32 31, .string ⟨#[119, 111, 114, 108, 100]⟩, .string ⟨#[97, 110, 121, 111, 110, 101]⟩] 245 3)]
theorem k6 : cutChk ((evK Tryz.prog kn [] 100000).call c6.f c6.args none ⟨ofPairs c6.pre, c6.nxt⟩) c6 = true := by kernel_rfl
theorem g6 : CutGood Tryz.prog Tryz.prog.globals.size c6 := cut_stepK (by kernel_rfl) kn_ok cuts_nil 100000 k6

end Go.Proofs.YtjipcihcldngbaaGreatDoor.replicaNils
