import Derived.Test.YtakonddhaabobaaGreatSzT
import Derived.Test.YtakonddhaabobaaGreatSzW
set_option linter.all false
namespace Go.Pi
open Z
set_option linter.unusedVariables false
set_option maxRecDepth 100000
abbrev sTab : ShapeK := ⟨[(0, .b (.whole 1))], [(1, .row 1 (.own .bool))], 2, false⟩
abbrev sInt : ShapeK := ⟨[(0, .b (.one 1 (.int .i64)))], [], 1, false⟩
abbrev sTab2 : ShapeK := ⟨[(0, .b (.whole 1)), (1, .b (.whole 2))], [(1, .row 1 (.own .bool)), (2, .row 1 (.own .bool))], 3, false⟩
abbrev sSpan : ShapeK := ⟨[(0, .b (.one 1 (.st 0))), (1, .b (.one 1 (.list (.int .u8))))], [], 1, false⟩
abbrev sBs : ShapeK := ⟨[(0, .b (.one 1 (.list (.int .u8))))], [], 1, false⟩
abbrev sPk : ShapeK := ⟨[(0, .b (.ptr 1 0))], [(1, .box none [.one 1 (.list (.int .u8)), .one 1 (.int .i64)])], 2, false⟩
theorem er23 : pf23.body = ac23.er := by kernel_rfl
def F23 (k : Nat) := bodyF (S := SyS) (pr := prog) [] pf23.ntmps k ac23 [.val (.arr 4 .u64), .val (.int .u8)] [.val .bool] pf23.results
theorem ok23 (k : Nat) : FOk (S := SyS) prog 23 [.val (.arr 4 .u64), .val (.int .u8)] [.val .bool] (F23 k) := FOk.of (pf := pf23) rfl rfl er23 rfl
theorem er18 : pf18.body = ac18.er := by kernel_rfl
def F18 (k : Nat) := bodyF (S := SyS) (pr := prog) [] pf18.ntmps k ac18 [.val (.arr 4 .u64), .val (.int .u8)] [.val .bool] pf18.results
theorem ok18 (k : Nat) : FOk (S := SyS) prog 18 [.val (.arr 4 .u64), .val (.int .u8)] [.val .bool] (F18 k) := FOk.of (pf := pf18) rfl rfl er18 rfl
theorem er17 : pf17.body = ac17.er := by kernel_rfl
def F17 (k : Nat) := bodyF (S := SyS) (pr := prog) [.plain ⟨23, _, _, F23 k, ok23 k⟩] pf17.ntmps k ac17 [.val (.list (.arr 4 .u64)), .val (.list (.int .u8))] [.val .bool] pf17.results
theorem ok17 (k : Nat) : FOk (S := SyS) prog 17 [.val (.list (.arr 4 .u64)), .val (.list (.int .u8))] [.val .bool] (F17 k) := FOk.of (pf := pf17) rfl rfl er17 rfl
theorem er6 : pf6.body = ac6.er := by kernel_rfl
def F6 (k : Nat) := bodyF (S := SyS) (pr := prog) [.plain ⟨17, _, _, F17 k, ok17 k⟩] pf6.ntmps k ac6 [.val (.st 4), .val (.list (.int .u8)), .val (.int .i64)] [.val .bool] pf6.results
theorem ok6 (k : Nat) : FOk (S := SyS) prog 6 [.val (.st 4), .val (.list (.int .u8)), .val (.int .i64)] [.val .bool] (F6 k) := FOk.of (pf := pf6) rfl rfl er6 rfl
theorem er9 : pf9.body = ac9.er := by kernel_rfl
def F9 (k : Nat) := bodyF (S := SyS) (pr := prog) [.plain ⟨6, _, _, F6 k, ok6 k⟩] pf9.ntmps k ac9 [.val (.st 4), .val (.list (.int .u8))] [.own (.int .i64)] pf9.results
theorem ok9 (k : Nat) : FOk (S := SyS) prog 9 [.val (.st 4), .val (.list (.int .u8))] [.own (.int .i64)] (F9 k) := FOk.of (pf := pf9) rfl rfl er9 rfl
theorem er19 : pf19.body = ac19.er := by kernel_rfl
def F19 (k : Nat) := bodyF (S := SyS) (pr := prog) [] pf19.ntmps k ac19 [.val (.list (.int .u8))] [.val (.arr 4 .u64)] pf19.results
theorem ok19 (k : Nat) : FOk (S := SyS) prog 19 [.val (.list (.int .u8))] [.val (.arr 4 .u64)] (F19 k) := FOk.of (pf := pf19) rfl rfl er19 rfl
theorem er11 : pf11.body = ac11.er := by kernel_rfl
def F11 (k : Nat) := bodyF (S := SyS) (pr := prog) [.plain ⟨18, _, _, F18 k, ok18 k⟩, .plain ⟨19, _, _, F19 k, ok19 k⟩] pf11.ntmps k ac11 [.val (.arr 4 .u64)] [.val (.arr 4 .u64)] pf11.results
theorem ok11 (k : Nat) : FOk (S := SyS) prog 11 [.val (.arr 4 .u64)] [.val (.arr 4 .u64)] (F11 k) := FOk.of (pf := pf11) rfl rfl er11 rfl
theorem er13 : pf13.body = ac13.er := by kernel_rfl
def F13 (k : Nat) := bodyL (S := SyS) (pr := prog) [] pf13.ntmps k ac13 (.st 5) [.val (.int .i64)] [.val (.int .i64)] pf13.results
theorem ok13 (k : Nat) : LOk (S := SyS) prog 13 (.st 5) [.val (.int .i64)] [.val (.int .i64)] (F13 k) := LOk.of (pf := pf13) rfl rfl er13 rfl rfl
theorem er16 : pf16.body = ac16.er := by kernel_rfl
def F16 (k : Nat) := bodyL (S := SyS) (pr := prog) [.lent ⟨13, _, _, _, F13 k, ok13 k⟩, .plain ⟨19, _, _, F19 k, ok19 k⟩, .plain ⟨11, _, _, F11 k, ok11 k⟩] pf16.ntmps k ac16 (.st 5) [] [.val (.arr 4 .u64)] pf16.results
theorem ok16 (k : Nat) : LOk (S := SyS) prog 16 (.st 5) [] [.val (.arr 4 .u64)] (F16 k) := LOk.of (pf := pf16) rfl rfl er16 rfl rfl
theorem er14 : pf14.body = ac14.er := by kernel_rfl
def R14 (k : Nat) (e : T SyS (.st 5) × Flds SyS (pcs [.val (.int .i64)]) → Option (T SyS (.st 5) × Flds SyS (rcs [.val (.st 0)]))) (h : LOk (S := SyS) prog 14 (.st 5) [.val (.int .i64)] [.val (.st 0)] e) := bodyL (S := SyS) (pr := prog) [.lent ⟨14, _, _, _, e, h⟩, .lent ⟨13, _, _, _, F13 k, ok13 k⟩, .lent ⟨16, _, _, _, F16 k, ok16 k⟩] pf14.ntmps k ac14 (.st 5) [.val (.int .i64)] [.val (.st 0)] pf14.results
def P14 (k : Nat) : Nat → {e : T SyS (.st 5) × Flds SyS (pcs [.val (.int .i64)]) → Option (T SyS (.st 5) × Flds SyS (rcs [.val (.st 0)])) // LOk (S := SyS) prog 14 (.st 5) [.val (.int .i64)] [.val (.st 0)] e}
 | 0 => ⟨fun _ => none, fun _ _ h => nomatch h⟩
 | d + 1 => ⟨R14 k (P14 k d).1 (P14 k d).2, LOk.of (pf := pf14) rfl rfl er14 rfl rfl⟩
def F14 (k : Nat) := (P14 k k).1
theorem ok14 (k : Nat) : LOk (S := SyS) prog 14 (.st 5) [.val (.int .i64)] [.val (.st 0)] (F14 k) := (P14 k k).2
theorem er49 : pf49.body = ac49.er := by kernel_rfl
def F49 (k : Nat) := bodyH (S := SyS) (pr := prog) [] pf49.ntmps k ac49 sInt sTab pf49.results
theorem ok49 (k : Nat) : HOk (S := SyS) prog 49 sInt sTab (F49 k) := HOk.of (pf := pf49) rfl rfl er49 rfl rfl
theorem er50 : pf50.body = ac50.er := by kernel_rfl
def F50 (k : Nat) := bodyH (S := SyS) (pr := prog) [.heap ⟨49, _, _, F49 k, ok49 k⟩] pf50.ntmps k ac50 sInt sTab pf50.results
theorem ok50 (k : Nat) : HOk (S := SyS) prog 50 sInt sTab (F50 k) := HOk.of (pf := pf50) rfl rfl er50 rfl rfl
theorem er51 : pf51.body = ac51.er := by kernel_rfl
def F51 (k : Nat) := bodyH (S := SyS) (pr := prog) [.heap ⟨49, _, _, F49 k, ok49 k⟩] pf51.ntmps k ac51 sTab2 sTab pf51.results
theorem ok51 (k : Nat) : HOk (S := SyS) prog 51 sTab2 sTab (F51 k) := HOk.of (pf := pf51) rfl rfl er51 rfl rfl
theorem er29 : pf29.body = ac29.er := by kernel_rfl
def R29 (k : Nat) (e : Flds SyS (ShapeK.cs sSpan) → Option (Flds SyS (ShapeK.cs sTab))) (h : HOk (S := SyS) prog 29 sSpan sTab e) := bodyH (S := SyS) (pr := prog) [.heap ⟨29, _, _, e, h⟩, .heap ⟨49, _, _, F49 k, ok49 k⟩, .heap ⟨50, _, _, F50 k, ok50 k⟩, .heap ⟨51, _, _, F51 k, ok51 k⟩, .plain ⟨18, _, _, F18 k, ok18 k⟩] pf29.ntmps k ac29 sSpan sTab pf29.results
def P29 (k : Nat) : Nat → {e : Flds SyS (ShapeK.cs sSpan) → Option (Flds SyS (ShapeK.cs sTab)) // HOk (S := SyS) prog 29 sSpan sTab e}
 | 0 => ⟨fun _ => none, fun _ _ h => nomatch h⟩
 | d + 1 => ⟨R29 k (P29 k d).1 (P29 k d).2, HOk.of (pf := pf29) rfl rfl er29 rfl rfl⟩
def F29 (k : Nat) := (P29 k k).1
theorem ok29 (k : Nat) : HOk (S := SyS) prog 29 sSpan sTab (F29 k) := (P29 k k).2
theorem er22 : pf22.body = ac22.er := by kernel_rfl
def F22 (k : Nat) := bodyF (S := SyS) (pr := prog) [.heap ⟨29, _, _, F29 k, ok29 k⟩] pf22.ntmps k ac22 [.val (.st 0), .val (.list (.int .u8))] [.val .bool] pf22.results
theorem ok22 (k : Nat) : FOk (S := SyS) prog 22 [.val (.st 0), .val (.list (.int .u8))] [.val .bool] (F22 k) := FOk.of (pf := pf22) rfl rfl er22 rfl
theorem er15 : pf15.body = ac15.er := by kernel_rfl
def F15 (k : Nat) := bodyF (S := SyS) (pr := prog) [.plain ⟨22, _, _, F22 k, ok22 k⟩] pf15.ntmps k ac15 [.val (.st 0)] [.val .bool] pf15.results
theorem ok15 (k : Nat) : FOk (S := SyS) prog 15 [.val (.st 0)] [.val .bool] (F15 k) := FOk.of (pf := pf15) rfl rfl er15 rfl
theorem er4 : pf4.body = ac4.er := by kernel_rfl
def F4 (k : Nat) := bodyH (S := SyS) (pr := prog) [] pf4.ntmps k ac4 sBs sPk pf4.results
theorem ok4 (k : Nat) : HOk (S := SyS) prog 4 sBs sPk (F4 k) := HOk.of (pf := pf4) rfl rfl er4 rfl rfl
theorem er5 : pf5.body = ac5.er := by kernel_rfl
def F5 (k : Nat) := bodyL (S := SyS) (pr := prog) [.lent ⟨13, _, _, _, F13 k, ok13 k⟩, .lent ⟨16, _, _, _, F16 k, ok16 k⟩, .lent ⟨14, _, _, _, F14 k, ok14 k⟩, .plain ⟨15, _, _, F15 k, ok15 k⟩] pf5.ntmps k ac5 (.st 5) [] [.val (.st 4)] pf5.results
theorem ok5 (k : Nat) : LOk (S := SyS) prog 5 (.st 5) [] [.val (.st 4)] (F5 k) := LOk.of (pf := pf5) rfl rfl er5 rfl rfl
def F3 : Flds SyS (pcs []) → Option (Flds SyS (rcs [.val .bool])) := fun _ => some (true, ())
theorem ok3 : FOk (S := SyS) prog 3 [] [.val .bool] F3 := by
 intro p r hr ds hds
 cases hr
 match ds, hds with
 | [], _ =>
  obtain ⟨m, d, H', rd, h1, h2, h3, h4⟩ := syx8 ⟨3, [], .bool true⟩ (by simp [syX8])
  refine ⟨m, d, H', h1, ?_, _, _, _, h2, rfl, rfl, ?_⟩
  ·cases d <;> first | rfl | (cases h3)
  ·exact ⟨show Cl [] 1 _ _ ∧ True from ⟨Cl.plain rfl rfl, trivial⟩, rfl⟩
theorem er2 : pf2.body = ac2.er := by kernel_rfl
def F2 (k : Nat) := bodyF (S := SyS) (pr := prog) [.plain ⟨3, _, _, F3, ok3⟩, .heap ⟨4, _, _, F4 k, ok4 k⟩, .lent ⟨5, _, _, _, F5 k, ok5 k⟩, .plain ⟨6, _, _, F6 k, ok6 k⟩, .plain ⟨9, _, _, F9 k, ok9 k⟩, .plain ⟨11, _, _, F11 k, ok11 k⟩] pf2.ntmps k ac2 [.val (.list (.int .u8)), .val (.list (.int .u8))] [.val .bool] pf2.results
theorem ok2 (k : Nat) : FOk (S := SyS) prog 2 [.val (.list (.int .u8)), .val (.list (.int .u8))] [.val .bool] (F2 k) := FOk.of (pf := pf2) rfl rfl er2 rfl
end Go.Pi

