import Derived.Test.YtakonddhaabobaaSzT
import Derived.Test.YtakonddhaabobaaSlW1
import Derived.Test.YtakonddhaabobaaSlW
import Derived.Test.YtakonddhaabobaaLQ
set_option linter.all false
namespace Go.Pi
set_option linter.unusedVariables false
set_option maxRecDepth 100000
def F18 (k : Nat) := bodyF (S := SyS) (pr := prog) [] pf18.ntmps k ac18 [.val (.arr 4 .u64), .val (.int .u8)] [.val .bool] pf18.results
theorem er23 : pf23.body = ac23.er := by kernel_rfl
def F23 (k : Nat) := bodyF (S := SyS) (pr := prog) [] pf23.ntmps k ac23 [.val (.arr 4 .u64), .val (.int .u8)] [.val .bool] pf23.results
theorem ok23 (k : Nat) : FOk (S := SyS) prog 23 [.val (.arr 4 .u64), .val (.int .u8)] [.val .bool] (F23 k) := FOk.of (pf := pf23) rfl rfl er23 rfl
theorem er17 : pf17.body = ac17.er := by kernel_rfl
def F17 (k : Nat) := bodyF (S := SyS) (pr := prog) [.plain ⟨23, _, _, F23 k, ok23 k⟩] pf17.ntmps k ac17 [.val (.list (.arr 4 .u64)), .val (.list (.int .u8))] [.val .bool] pf17.results
theorem ok17 (k : Nat) : FOk (S := SyS) prog 17 [.val (.list (.arr 4 .u64)), .val (.list (.int .u8))] [.val .bool] (F17 k) := FOk.of (pf := pf17) rfl rfl er17 rfl
theorem er6 : pf6.body = ac6.er := by kernel_rfl
def F6 (k : Nat) := bodyF (S := SyS) (pr := prog) [.plain ⟨17, _, _, F17 k, ok17 k⟩] pf6.ntmps k ac6 [.val (.st 4), .val (.list (.int .u8)), .val (.int .i64)] [.val .bool] pf6.results
theorem ok6 (k : Nat) : FOk (S := SyS) prog 6 [.val (.st 4), .val (.list (.int .u8)), .val (.int .i64)] [.val .bool] (F6 k) := FOk.of (pf := pf6) rfl rfl er6 rfl
theorem er9 : pf9.body = ac9.er := by kernel_rfl
def F9 (k : Nat) := bodyF (S := SyS) (pr := prog) [.plain ⟨6, _, _, F6 k, ok6 k⟩] pf9.ntmps k ac9 [.val (.st 4), .val (.list (.int .u8))] [.own (.int .i64)] pf9.results
theorem ok9 (k : Nat) : FOk (S := SyS) prog 9 [.val (.st 4), .val (.list (.int .u8))] [.own (.int .i64)] (F9 k) := FOk.of (pf := pf9) rfl rfl er9 rfl
theorem er8 : pf8.body = ac8.er := by kernel_rfl
def F8 (k : Nat) := bodyF (S := SyS) (pr := prog) [] pf8.ntmps k ac8 [.val (.list (.int .i64)), .val (.list (.int .i64))] [.val .bool] pf8.results
theorem ok8 (k : Nat) : FOk (S := SyS) prog 8 [.val (.list (.int .i64)), .val (.list (.int .i64))] [.val .bool] (F8 k) := FOk.of (pf := pf8) rfl rfl er8 rfl
def F3 : Flds SyS (pcs []) → Option (Flds SyS (rcs [.val .bool])) := fun _ => some (true, ())
theorem ok3 : FOk (S := SyS) prog 3 [] [.val .bool] F3 := by
 intro p r hr ds hds
 cases hr
 match ds, hds with
 | [], _ =>
  obtain ⟨m, d, H', rd, h1, h2, h3, h4⟩ := syx8 ⟨3, [], .bool true⟩ (by simp [syX8])
  refine ⟨m, d, H', h1, ?_, _, _, _, h2, rfl, rfl, ?_⟩
  ·cases d <;> first | rfl | (cases h3)
  ·exact ⟨show Cl [] 1 _ _ ∧ True from ⟨Cl.plain rfl rfl, trivial⟩, rfl⟩
def gr0 : GrT := ([([97], (RxT.mk 1 ⟨[0, 8589934592, 0, 0], rfl⟩ []), false, ()), ([98], (RxT.mk 1 ⟨[0, 17179869184, 0, 0], rfl⟩ []), false, ()), ([119], (RxT.mk 1 ⟨[4294967296, 0, 0, 0], rfl⟩ []), true, ())], [[115], [116]], [([104, 111, 116], [49, 46, 53], ()), ([111, 100, 100], [110, 97, 110], ())], [(0, [(-1), 1, (-2)], 0, ()), (1, [0], 1, ()), (1, [], (-1), ())], [⟨[1024, 0, 0, 0], rfl⟩], [], 12, ())
def gr1 : GrT := ([([110], (RxT.mk 5 ⟨[0, 0, 0, 0], rfl⟩ [(RxT.mk 1 ⟨[1970324836974592, 0, 0, 0], rfl⟩ [])]), false, ()), ([109], (RxT.mk 1 ⟨[35184372088832, 0, 0, 0], rfl⟩ []), false, ()), ([119], (RxT.mk 5 ⟨[0, 0, 0, 0], rfl⟩ [(RxT.mk 1 ⟨[4294967296, 0, 0, 0], rfl⟩ [])]), true, ())], [[115], [102]], [([120], [48, 46, 50, 53], ()), ([121], [45, 105, 110, 102], ()), ([122], [105, 110, 102], ())], [(0, [0, (-2), 1], 0, ()), (0, [1], (-1), ()), (1, [(-1)], 1, ()), (1, [(-2), 1], 2, ())], [], [⟨[1024, 0, 0, 0], rfl⟩], 10, ())
def F12 : Flds SyS (pcs [.val (.int .u8)]) → Option (Flds SyS (rcs [.val (.st 4)])) := fun p => if p.1 = 0 then some (gr0, ()) else if p.1 = 1 then some (gr1, ()) else none
theorem gr0_ok : VS (S := SyS) noRho [] (.one 1 (.st 4) gr0) syg := vs_st (by kernel_rfl) (by kernel_rfl)
theorem gr1_ok : VS (S := SyS) noRho [] (.one 1 (.st 4) gr1) sz1g := vs_st (by kernel_rfl) (by kernel_rfl)
theorem ok12 : FOk (S := SyS) prog 12 [.val (.int .u8)] [.val (.st 4)] F12 := by
 intro p r hr ds hds
 match ds, hds with
 | [d], hds =>
  obtain ⟨n, ⟨⟩⟩ := p
  have hd : d = .int .u8 n := vs_inv_int (S := SyS) hds.1
  subst hd
  have hr : (if n = 0 then some (gr0, ()) else if n = 1 then some (gr1, ()) else none) = some r := hr
  split at hr
  ·rename_i h; subst h; cases hr
   exact syx8.val (S := SyS) (c := .st 4) (v := gr0) (g := syg) (by simp [syX8, syX7]) rfl gr0_ok
  ·split at hr
   ·rename_i h; subst h; cases hr
    exact sz1x7.val (S := SyS) (c := .st 4) (v := gr1) (g := sz1g) (by simp [sz1X7]) rfl gr1_ok
   ·cases hr
theorem er110 : pf110.body = ac110.er := by kernel_rfl
def F110 (k : Nat) := bodyF (S := SyS) (pr := prog) [.plain ⟨3, _, _, F3, ok3⟩, .plain ⟨12, _, _, F12, ok12⟩, .plain ⟨9, _, _, F9 k, ok9 k⟩, .plain ⟨8, _, _, F8 k, ok8 k⟩] pf110.ntmps k ac110 [.val (.list (.int .u8))] [.val .bool] pf110.results
theorem ok110 (k : Nat) : FOk (S := SyS) prog 110 [.val (.list (.int .u8))] [.val .bool] (F110 k) := FOk.of (pf := pf110) rfl rfl er110 rfl
end Go.Pi

