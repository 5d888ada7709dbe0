import Derived.Test.YtghncdeldlknnaaTxT
import Derived.Test.YtghncdeldlknnaaTxP
import Derived.KernelRfl
/-
  THE FUNCTIONS, as terms over lists.
-/
set_option linter.all false
namespace Go.Pi
set_option maxRecDepth 100000
set_option linter.unusedVariables false
set_option maxHeartbeats 2000000
/-! eyot/tree.holds -/
def tree_holds (k : Nat) (a0 : NodeT) (a1 : Int) : Option Bool :=
  (cond (decide (a0.from_ ≤ a1)) (some (decide (a1 < a0.to_))) (some false)).bind fun y3 => some y3
theorem tree_holds_ok (k : Nat) (a0 : NodeT) (a1 : Int) : ∀ r, tree_holds k a0 a1 = some r → CallOk prog 119 [.agg [.x (.int .i64 a0.Depth), .x (.int .i64 a0.Rule), .x (.int .i64 a0.Token), .x (.int .i64 a0.from_), .x (.int .i64 a0.to_)], .x (.int .i64 a1)] false [.sc (.x (.bool r))] := by
  refine CallOk.of' (pf := pf119) (ts := [4]) (Res := fun (r : Bool) => [.sc (.x (.bool r))]) rfl rfl rfl rfl ?_
  unfold tree_holds pf119
  refine JC.seq ?_
  refine JC.region fun b1 => ?_
  refine JS.box (w := .agg [.x (.int .i64 a0.Depth), .x (.int .i64 a0.Rule), .x (.int .i64 a0.Token), .x (.int .i64 a0.from_), .x (.int .i64 a0.to_)]) (by kernel_rfl) ⟨(by kernel_rfl), (by kernel_rfl), (by kernel_rfl)⟩ (by kernel_rfl) (by kernel_rfl) (by kernel_rfl) (fun id2 => ?_)
  refine JS.run 1 (by kernel_rfl) ?_
  refine JS.nil ?_
  refine JC.to2 [(1, .x (.int .i64 a1)), (2, .ptr id2 5 0 0)] [⟨(some id2), 5, [[.x (.int .i64 a0.Depth), .x (.int .i64 a0.Rule), .x (.int .i64 a0.Token), .x (.int .i64 a0.from_), .x (.int .i64 a0.to_)]]⟩] (by kernel_rfl) (by kernel_rfl) ?_
  refine JC.skipT ?_
  refine JC.seq ?_
  refine JC.bind (A := fun v ex E R => ex = .normal ∧ E = [(4, .x (.bool v))] ∧ R = []) ?_ ?_
  · refine JC.region fun b4 => ?_
    refine JS.run 1 (by kernel_rfl) ?_
    refine JS.loadO (id := id2) (sz := 5) (p := 0) (j := 3) (es := [[.x (.int .i64 a0.Depth), .x (.int .i64 a0.Rule), .x (.int .i64 a0.Token), .x (.int .i64 a0.from_), .x (.int .i64 a0.to_)]]) (e := [.x (.int .i64 a0.Depth), .x (.int .i64 a0.Rule), .x (.int .i64 a0.Token), .x (.int .i64 a0.from_), .x (.int .i64 a0.to_)]) 0 (by kernel_rfl) (by kernel_rfl) (by kernel_rfl) (by kernel_rfl) (by kernel_rfl) (by kernel_rfl) ?_
    refine JS.run 3 (by kernel_rfl) ?_
    refine JS.split (e := (decide (a0.from_ ≤ a1))) 9 (by kernel_rfl) (fun h5 => ?_) (fun h5 => ?_)
    · refine JS.run 2 (by kernel_rfl) ?_
      refine JS.loadO (id := id2) (sz := 5) (p := 0) (j := 4) (es := [[.x (.int .i64 a0.Depth), .x (.int .i64 a0.Rule), .x (.int .i64 a0.Token), .x (.int .i64 a0.from_), .x (.int .i64 a0.to_)]]) (e := [.x (.int .i64 a0.Depth), .x (.int .i64 a0.Rule), .x (.int .i64 a0.Token), .x (.int .i64 a0.from_), .x (.int .i64 a0.to_)]) 0 (by kernel_rfl) (by kernel_rfl) (by kernel_rfl) (by kernel_rfl) (by kernel_rfl) (by kernel_rfl) ?_
      refine JS.run 3 (by kernel_rfl) ?_
      refine JS.nil ?_
      refine JC.drop 0 ?_
      refine JC.to2 [(4, .x (.bool (decide (a1 < a0.to_))))] [] (by kernel_rfl) (by kernel_rfl) ?_
      refine JC.to2 [(4, .x (.bool (decide (a1 < a0.to_))))] [] (by kernel_rfl) (by kernel_rfl) ?_
      exact JC.got (ex := .normal) rfl ⟨rfl, rfl, rfl⟩
    · refine JS.run 6 (by kernel_rfl) ?_
      refine JS.nil ?_
      refine JC.drop 0 ?_
      refine JC.to2 [(4, .x (.bool false))] [] (by kernel_rfl) (by kernel_rfl) ?_
      refine JC.to2 [(4, .x (.bool false))] [] (by kernel_rfl) (by kernel_rfl) ?_
      exact JC.got (ex := .normal) rfl ⟨rfl, rfl, rfl⟩
  · rintro y3 ex E' R' hA
    obtain ⟨rfl, rfl, rfl⟩ := hA
    refine JC.to2 [(4, .x (.bool y3))] [] (by kernel_rfl) (by kernel_rfl) ?_
    refine JC.skipT ?_
    exact JC.fin (ex := .ret) (vs := [.x (.bool y3)]) (is := []) rfl ret_ne (by kernel_rfl) (Outs.sc rfl Outs.nil)
/-! eyot/tree.word -/
def tree_word (k : Nat) (a0 : NodeT) : Option (Bool × Bool) :=
  (cond (decide (a0.Token ≥ (0 : Int))) (cond (a0.Rule == (-1 : Int)) (some true) (cond (a0.Token == (-1 : Int)) (some (decide (a0.Rule ≥ (0 : Int)))) (some false))) (cond (a0.Token == (-1 : Int)) (some (decide (a0.Rule ≥ (0 : Int)))) (some false))).bind fun y4 => some ((decide (a0.Token ≥ (0 : Int))), y4)
theorem tree_word_ok (k : Nat) (a0 : NodeT) : ∀ r, tree_word k a0 = some r → CallOk prog 118 [.agg [.x (.int .i64 a0.Depth), .x (.int .i64 a0.Rule), .x (.int .i64 a0.Token), .x (.int .i64 a0.from_), .x (.int .i64 a0.to_)]] true [.sc (.x (.bool r.1)), .sc (.x (.bool r.2))] := by
  refine CallOk.of' (pf := pf118) (ts := [2, 3]) (Res := fun (r : (Bool × Bool)) => [.sc (.x (.bool r.1)), .sc (.x (.bool r.2))]) rfl rfl rfl rfl ?_
  unfold tree_word pf118
  refine JC.seq ?_
  refine JC.region fun b1 => ?_
  refine JS.box (w := .agg [.x (.int .i64 a0.Depth), .x (.int .i64 a0.Rule), .x (.int .i64 a0.Token), .x (.int .i64 a0.from_), .x (.int .i64 a0.to_)]) (by kernel_rfl) ⟨(by kernel_rfl), (by kernel_rfl), (by kernel_rfl)⟩ (by kernel_rfl) (by kernel_rfl) (by kernel_rfl) (fun id2 => ?_)
  refine JS.run 2 (by kernel_rfl) ?_
  refine JS.nil ?_
  refine JC.to2 [(1, .ptr id2 5 0 0)] [⟨(some id2), 5, [[.x (.int .i64 a0.Depth), .x (.int .i64 a0.Rule), .x (.int .i64 a0.Token), .x (.int .i64 a0.from_), .x (.int .i64 a0.to_)]]⟩] (by kernel_rfl) (by kernel_rfl) ?_
  refine JC.skipT ?_
  refine JC.seq ?_
  refine JC.region fun b3 => ?_
  refine JS.run 1 (by kernel_rfl) ?_
  refine JS.loadO (id := id2) (sz := 5) (p := 0) (j := 2) (es := [[.x (.int .i64 a0.Depth), .x (.int .i64 a0.Rule), .x (.int .i64 a0.Token), .x (.int .i64 a0.from_), .x (.int .i64 a0.to_)]]) (e := [.x (.int .i64 a0.Depth), .x (.int .i64 a0.Rule), .x (.int .i64 a0.Token), .x (.int .i64 a0.from_), .x (.int .i64 a0.to_)]) 0 (by kernel_rfl) (by kernel_rfl) (by kernel_rfl) (by kernel_rfl) (by kernel_rfl) (by kernel_rfl) ?_
  refine JS.run 2 (by kernel_rfl) ?_
  refine JS.nil ?_
  refine JC.to2 [(1, .ptr id2 5 0 0), (2, .x (.bool (decide (a0.Token ≥ (0 : Int)))))] [⟨(some id2), 5, [[.x (.int .i64 a0.Depth), .x (.int .i64 a0.Rule), .x (.int .i64 a0.Token), .x (.int .i64 a0.from_), .x (.int .i64 a0.to_)]]⟩] (by kernel_rfl) (by kernel_rfl) ?_
  refine JC.skipT ?_
  refine JC.seq ?_
  refine JC.bind (A := fun v ex E R => ex = .normal ∧ E = [(2, .x (.bool (decide (a0.Token ≥ (0 : Int))))), (3, .x (.bool v))] ∧ R = []) ?_ ?_
  · refine JC.region fun b5 => ?_
    refine JS.run 3 (by kernel_rfl) ?_
    refine JS.split (e := (decide (a0.Token ≥ (0 : Int)))) 9 (by kernel_rfl) (fun h6 => ?_) (fun h6 => ?_)
    · refine JS.run 1 (by kernel_rfl) ?_
      refine JS.loadO (id := id2) (sz := 5) (p := 0) (j := 1) (es := [[.x (.int .i64 a0.Depth), .x (.int .i64 a0.Rule), .x (.int .i64 a0.Token), .x (.int .i64 a0.from_), .x (.int .i64 a0.to_)]]) (e := [.x (.int .i64 a0.Depth), .x (.int .i64 a0.Rule), .x (.int .i64 a0.Token), .x (.int .i64 a0.from_), .x (.int .i64 a0.to_)]) 0 (by kernel_rfl) (by kernel_rfl) (by kernel_rfl) (by kernel_rfl) (by kernel_rfl) (by kernel_rfl) ?_
      refine JS.run 3 (by kernel_rfl) ?_
      refine JS.split (e := (a0.Rule == (-1 : Int))) 14 (by kernel_rfl) (fun h7 => ?_) (fun h7 => ?_)
      · refine JS.run 11 (by kernel_rfl) ?_
        refine JS.nil ?_
        refine JC.drop 0 ?_
        refine JC.to2 [(2, .x (.bool (decide (a0.Token ≥ (0 : Int))))), (3, .x (.bool true))] [] (by kernel_rfl) (by kernel_rfl) ?_
        refine JC.to2 [(2, .x (.bool (decide (a0.Token ≥ (0 : Int))))), (3, .x (.bool true))] [] (by kernel_rfl) (by kernel_rfl) ?_
        exact JC.got (ex := .normal) rfl ⟨rfl, rfl, rfl⟩
      · refine JS.run 1 (by kernel_rfl) ?_
        refine JS.loadO (id := id2) (sz := 5) (p := 0) (j := 2) (es := [[.x (.int .i64 a0.Depth), .x (.int .i64 a0.Rule), .x (.int .i64 a0.Token), .x (.int .i64 a0.from_), .x (.int .i64 a0.to_)]]) (e := [.x (.int .i64 a0.Depth), .x (.int .i64 a0.Rule), .x (.int .i64 a0.Token), .x (.int .i64 a0.from_), .x (.int .i64 a0.to_)]) 0 (by kernel_rfl) (by kernel_rfl) (by kernel_rfl) (by kernel_rfl) (by kernel_rfl) (by kernel_rfl) ?_
        refine JS.run 2 (by kernel_rfl) ?_
        refine JS.split (e := (a0.Token == (-1 : Int))) 18 (by kernel_rfl) (fun h8 => ?_) (fun h8 => ?_)
        · refine JS.run 1 (by kernel_rfl) ?_
          refine JS.loadO (id := id2) (sz := 5) (p := 0) (j := 1) (es := [[.x (.int .i64 a0.Depth), .x (.int .i64 a0.Rule), .x (.int .i64 a0.Token), .x (.int .i64 a0.from_), .x (.int .i64 a0.to_)]]) (e := [.x (.int .i64 a0.Depth), .x (.int .i64 a0.Rule), .x (.int .i64 a0.Token), .x (.int .i64 a0.from_), .x (.int .i64 a0.to_)]) 0 (by kernel_rfl) (by kernel_rfl) (by kernel_rfl) (by kernel_rfl) (by kernel_rfl) (by kernel_rfl) ?_
          refine JS.run 5 (by kernel_rfl) ?_
          refine JS.nil ?_
          refine JC.drop 0 ?_
          refine JC.to2 [(2, .x (.bool (decide (a0.Token ≥ (0 : Int))))), (3, .x (.bool (decide (a0.Rule ≥ (0 : Int)))))] [] (by kernel_rfl) (by kernel_rfl) ?_
          refine JC.to2 [(2, .x (.bool (decide (a0.Token ≥ (0 : Int))))), (3, .x (.bool (decide (a0.Rule ≥ (0 : Int)))))] [] (by kernel_rfl) (by kernel_rfl) ?_
          exact JC.got (ex := .normal) rfl ⟨rfl, rfl, rfl⟩
        · refine JS.run 7 (by kernel_rfl) ?_
          refine JS.nil ?_
          refine JC.drop 0 ?_
          refine JC.to2 [(2, .x (.bool (decide (a0.Token ≥ (0 : Int))))), (3, .x (.bool false))] [] (by kernel_rfl) (by kernel_rfl) ?_
          refine JC.to2 [(2, .x (.bool (decide (a0.Token ≥ (0 : Int))))), (3, .x (.bool false))] [] (by kernel_rfl) (by kernel_rfl) ?_
          exact JC.got (ex := .normal) rfl ⟨rfl, rfl, rfl⟩
    · refine JS.run 6 (by kernel_rfl) ?_
      refine JS.loadO (id := id2) (sz := 5) (p := 0) (j := 2) (es := [[.x (.int .i64 a0.Depth), .x (.int .i64 a0.Rule), .x (.int .i64 a0.Token), .x (.int .i64 a0.from_), .x (.int .i64 a0.to_)]]) (e := [.x (.int .i64 a0.Depth), .x (.int .i64 a0.Rule), .x (.int .i64 a0.Token), .x (.int .i64 a0.from_), .x (.int .i64 a0.to_)]) 0 (by kernel_rfl) (by kernel_rfl) (by kernel_rfl) (by kernel_rfl) (by kernel_rfl) (by kernel_rfl) ?_
      refine JS.run 2 (by kernel_rfl) ?_
      refine JS.split (e := (a0.Token == (-1 : Int))) 18 (by kernel_rfl) (fun h9 => ?_) (fun h9 => ?_)
      · refine JS.run 1 (by kernel_rfl) ?_
        refine JS.loadO (id := id2) (sz := 5) (p := 0) (j := 1) (es := [[.x (.int .i64 a0.Depth), .x (.int .i64 a0.Rule), .x (.int .i64 a0.Token), .x (.int .i64 a0.from_), .x (.int .i64 a0.to_)]]) (e := [.x (.int .i64 a0.Depth), .x (.int .i64 a0.Rule), .x (.int .i64 a0.Token), .x (.int .i64 a0.from_), .x (.int .i64 a0.to_)]) 0 (by kernel_rfl) (by kernel_rfl) (by kernel_rfl) (by kernel_rfl) (by kernel_rfl) (by kernel_rfl) ?_
        refine JS.run 5 (by kernel_rfl) ?_
        refine JS.nil ?_
        refine JC.drop 0 ?_
        refine JC.to2 [(2, .x (.bool (decide (a0.Token ≥ (0 : Int))))), (3, .x (.bool (decide (a0.Rule ≥ (0 : Int)))))] [] (by kernel_rfl) (by kernel_rfl) ?_
        refine JC.to2 [(2, .x (.bool (decide (a0.Token ≥ (0 : Int))))), (3, .x (.bool (decide (a0.Rule ≥ (0 : Int)))))] [] (by kernel_rfl) (by kernel_rfl) ?_
        exact JC.got (ex := .normal) rfl ⟨rfl, rfl, rfl⟩
      · refine JS.run 7 (by kernel_rfl) ?_
        refine JS.nil ?_
        refine JC.drop 0 ?_
        refine JC.to2 [(2, .x (.bool (decide (a0.Token ≥ (0 : Int))))), (3, .x (.bool false))] [] (by kernel_rfl) (by kernel_rfl) ?_
        refine JC.to2 [(2, .x (.bool (decide (a0.Token ≥ (0 : Int))))), (3, .x (.bool false))] [] (by kernel_rfl) (by kernel_rfl) ?_
        exact JC.got (ex := .normal) rfl ⟨rfl, rfl, rfl⟩
  · rintro y4 ex E' R' hA
    obtain ⟨rfl, rfl, rfl⟩ := hA
    refine JC.to2 [(2, .x (.bool (decide (a0.Token ≥ (0 : Int))))), (3, .x (.bool y4))] [] (by kernel_rfl) (by kernel_rfl) ?_
    refine JC.skipT ?_
    exact JC.fin (ex := .ret) (vs := [.x (.bool (decide (a0.Token ≥ (0 : Int)))), .x (.bool y4)]) (is := []) rfl ret_ne (by kernel_rfl) (Outs.sc rfl (Outs.sc rfl Outs.nil))
/-! eyot/eyotref18.parent -/
def eyotref18_parent_l0 (a0 : (List NodeT)) (a1 : Int) : Nat → Int → Option (Unit ⊕ Int)
  | 0, _ => none
  | k + 1, x3 => cond (decide (x3 ≥ (0 : Int))) ((at? a0 x3).bind fun a8 => (at? a0 a1).bind fun a10 => cond (decide (a8.Depth < a10.Depth)) (some (Sum.inr x3)) (eyotref18_parent_l0 a0 a1 k (IntKind.i64.wrap (x3 - (1 : Int))))) (some (Sum.inl ()))
theorem eyotref18_parent_l0_ok (a0 : (List NodeT)) (a1 : Int)  : ∀ (k : Nat) (x3 : Int), JC prog noFr 24 [(0, .c 1 (.lst 5 (a0.map NodeT.D))), (1, .x (.int .i64 a1)), (5, .x (.int .i64 x3))] [] (.loop pf117_L0) (eyotref18_parent_l0 a0 a1 k x3) (fun x => GotA 24 noFr ((fun v ex E R => match v with | Sum.inl v => ex = (.exit 0) ∧ E = [] ∧ R = [] | Sum.inr v => ex = .ret ∧ E = [(4, .x (.int .i64 v))] ∧ R = []) x)) := by
  intro k
  induction k with
  | zero =>
    intro x3
    exact JC.no
  | succ k ih =>
    intro x3
    rw [eyotref18_parent_l0]
    refine JC.loop ?_
    refine JC.seq ?_
    refine JC.seq ?_
    refine JC.region fun b5 => ?_
    refine JS.run 2 (by kernel_rfl) ?_
    refine JS.nil ?_
    refine JC.to2 [(0, .c 1 (.lst 5 (a0.map NodeT.D))), (1, .x (.int .i64 a1)), (5, .x (.int .i64 x3)), (9, .x (.bool (decide (x3 ≥ (0 : Int)))))] [] (by kernel_rfl) (by kernel_rfl) ?_
    refine JC.skipT ?_
    refine JC.cond (e := (decide (x3 ≥ (0 : Int)))) (by kernel_rfl) (fun h6 => ?_) (fun h6 => ?_)
    · refine JC.skipT ?_
      refine JC.seq ?_
      refine JC.block ?_
      refine JC.seq ?_
      refine JC.region fun b7 => ?_
      refine JS.run 2 (by kernel_rfl) ?_
      refine JS.idxC (c := NodeT.D) (l := a0) (n := 1) (kk := .i64) (z := x3) (by kernel_rfl) (by kernel_rfl) (by kernel_rfl) (by kernel_rfl) (fun a8 h9 => ?_)
      refine JS.run 4 (by kernel_rfl) ?_
      refine JS.idxC (c := NodeT.D) (l := a0) (n := 1) (kk := .i64) (z := a1) (by kernel_rfl) (by kernel_rfl) (by kernel_rfl) (by kernel_rfl) (fun a10 h11 => ?_)
      refine JS.run 3 (by kernel_rfl) ?_
      refine JS.nil ?_
      refine JC.to2 [(0, .c 1 (.lst 5 (a0.map NodeT.D))), (1, .x (.int .i64 a1)), (5, .x (.int .i64 x3)), (22, .x (.bool (decide (a8.Depth < a10.Depth))))] [] (by kernel_rfl) (by kernel_rfl) ?_
      refine JC.skipT ?_
      refine JC.cond (e := (decide (a8.Depth < a10.Depth))) (by kernel_rfl) (fun h12 => ?_) (fun h12 => ?_)
      · refine JC.seq ?_
        refine JC.region fun b13 => ?_
        refine JS.run 2 (by kernel_rfl) ?_
        refine JS.nil ?_
        refine JC.to2 [(4, .x (.int .i64 x3))] [] (by kernel_rfl) (by kernel_rfl) ?_
        refine JC.skipT ?_
        refine JC.retB ?_
        refine JC.retT ?_
        refine JC.retL ?_
        refine JC.to2 [(4, .x (.int .i64 x3))] [] (by kernel_rfl) (by kernel_rfl) ?_
        exact JC.got (ex := .ret) rfl ⟨rfl, rfl, rfl⟩
      · refine JC.skipB ?_
        refine JC.skipT ?_
        refine JC.region fun b14 => ?_
        refine JS.run 3 (by kernel_rfl) ?_
        refine JS.nil ?_
        refine JC.to2 [(0, .c 1 (.lst 5 (a0.map NodeT.D))), (1, .x (.int .i64 a1)), (5, .x (.int .i64 (IntKind.i64.wrap (x3 - (1 : Int)))))] [] (by kernel_rfl) (by kernel_rfl) ?_
        refine JC.skipL ?_
        refine JC.to2 [(0, .c 1 (.lst 5 (a0.map NodeT.D))), (1, .x (.int .i64 a1)), (5, .x (.int .i64 (IntKind.i64.wrap (x3 - (1 : Int)))))] [] (by kernel_rfl) (by kernel_rfl) ?_
        exact ih (IntKind.i64.wrap (x3 - (1 : Int)))
    · refine JC.exitT ?_
      refine JC.exitL ?_
      refine JC.to2 [] [] (by kernel_rfl) (by kernel_rfl) ?_
      exact JC.got (ex := (.exit 0)) rfl ⟨rfl, rfl, rfl⟩
def eyotref18_parent (k : Nat) (a0 : (List NodeT)) (a1 : Int) : Option Int :=
  (eyotref18_parent_l0 a0 a1 k (IntKind.i64.wrap (a1 - (1 : Int)))).bind fun v => match v with | Sum.inl _ => some (-1 : Int) | Sum.inr y4 => some y4
theorem eyotref18_parent_ok (k : Nat) (a0 : (List NodeT)) (a1 : Int) : ∀ r, eyotref18_parent k a0 a1 = some r → CallOk prog 117 [.c 1 (.lst 5 (a0.map NodeT.D)), .x (.int .i64 a1)] false [.sc (.x (.int .i64 r))] := by
  refine CallOk.of' (pf := pf117) (ts := [4]) (Res := fun (r : Int) => [.sc (.x (.int .i64 r))]) rfl rfl rfl rfl ?_
  unfold eyotref18_parent pf117
  refine JC.seq ?_
  refine JC.region fun b1 => ?_
  refine JS.run 1 (by kernel_rfl) ?_
  refine JS.nil ?_
  refine JC.to2 [(0, .c 1 (.lst 5 (a0.map NodeT.D))), (1, .x (.int .i64 a1))] [] (by kernel_rfl) (by kernel_rfl) ?_
  refine JC.skipT ?_
  refine JC.seq ?_
  refine JC.seq ?_
  refine JC.region fun b2 => ?_
  refine JS.run 3 (by kernel_rfl) ?_
  refine JS.nil ?_
  refine JC.to2 [(0, .c 1 (.lst 5 (a0.map NodeT.D))), (1, .x (.int .i64 a1)), (5, .x (.int .i64 (IntKind.i64.wrap (a1 - (1 : Int)))))] [] (by kernel_rfl) (by kernel_rfl) ?_
  refine JC.skipT ?_
  refine JC.block ?_
  refine JC.to2 [(0, .c 1 (.lst 5 (a0.map NodeT.D))), (1, .x (.int .i64 a1)), (5, .x (.int .i64 (IntKind.i64.wrap (a1 - (1 : Int)))))] [] (by kernel_rfl) (by kernel_rfl) ?_
  refine JC.to2 [(0, .c 1 (.lst 5 (a0.map NodeT.D))), (1, .x (.int .i64 a1)), (5, .x (.int .i64 (IntKind.i64.wrap (a1 - (1 : Int)))))] [] (by kernel_rfl) (by kernel_rfl) ?_
  refine JC.bind (A := fun v ex E R => match v with | Sum.inl v => ex = (.exit 0) ∧ E = [] ∧ R = [] | Sum.inr v => ex = .ret ∧ E = [(4, .x (.int .i64 v))] ∧ R = []) (eyotref18_parent_l0_ok a0 a1 k (IntKind.i64.wrap (a1 - (1 : Int)))) ?_
  rintro v ex E' R' hA
  rcases v with _ | y4
  · obtain ⟨rfl, rfl, rfl⟩ := hA
    refine JC.to2 [] [] (by kernel_rfl) (by kernel_rfl) ?_
    refine JC.exitB ?_
    refine JC.skipT ?_
    refine JC.seq ?_
    refine JC.region fun b15 => ?_
    refine JS.run 1 (by kernel_rfl) ?_
    refine JS.nil ?_
    refine JC.to2 [(4, .x (.int .i64 (-1 : Int)))] [] (by kernel_rfl) (by kernel_rfl) ?_
    refine JC.skipT ?_
    exact JC.fin (ex := .ret) (vs := [.x (.int .i64 (-1 : Int))]) (is := []) rfl ret_ne (by kernel_rfl) (Outs.sc rfl Outs.nil)
  · obtain ⟨rfl, rfl, rfl⟩ := hA
    refine JC.to2 [(4, .x (.int .i64 y4))] [] (by kernel_rfl) (by kernel_rfl) ?_
    refine JC.retB ?_
    refine JC.retT ?_
    exact JC.fin (ex := .ret) (vs := [.x (.int .i64 y4)]) (is := []) rfl ret_ne (by kernel_rfl) (Outs.sc rfl Outs.nil)
/-! eyot/eyotref18.Kids -/
def eyotref18_Kids_l0 (a0 : (List NodeT)) (a1 : Int) : Nat → Int → (List Int) → Option (List Int)
  | 0, _, _ => none
  | k + 1, x4, x5 => cond (decide (x4 < ((a0.length : Nat) : Int))) (((eyotref18_parent k a0 x4).bind fun r14 => cond (r14 == a1) (room (x5.length + ([x4] : List Int).length) 8 (some (x5 ++ ([x4] : List Int)))) (some x5)).bind fun y11 => eyotref18_Kids_l0 a0 a1 k (IntKind.i64.wrap (x4 + (1 : Int))) y11) (some x5)
theorem eyotref18_Kids_l0_ok (a0 : (List NodeT)) (a1 : Int)  : ∀ (k : Nat) (x4 : Int) (x5 : (List Int)) (o6 : Option Nat), JC prog noFr 25 [(0, .c 1 (.lst 5 (a0.map NodeT.D))), (1, .x (.int .i64 a1)), (5, .ref o6 0 x5.length), (6, .x (.int .i64 x4))] [⟨o6, 1, vl (iD .i64) x5⟩] (.loop pf114_L0) (eyotref18_Kids_l0 a0 a1 k x4 x5) (fun x => GotA 25 noFr ((fun v ex E R => ∃ (o8 : Option Nat), ex = (.exit 0) ∧ E = [(5, .ref o8 0 v.length)] ∧ R = [⟨o8, 1, vl (iD .i64) v⟩]) x)) := by
  intro k
  induction k with
  | zero =>
    intro x4 x5 o6
    exact JC.no
  | succ k ih =>
    intro x4 x5 o6
    rw [eyotref18_Kids_l0]
    refine JC.loop ?_
    refine JC.seq ?_
    refine JC.seq ?_
    refine JC.region fun b9 => ?_
    refine JS.run 2 (by kernel_rfl) ?_
    refine JS.lenC (c := NodeT.D) (l := a0) (n := 1) (sz := 5) (by kernel_rfl) (by kernel_rfl) (by kernel_rfl) ?_
    refine JS.run 1 (by kernel_rfl) ?_
    refine JS.nil ?_
    refine JC.to2 [(0, .c 1 (.lst 5 (a0.map NodeT.D))), (1, .x (.int .i64 a1)), (5, .ref o6 0 x5.length), (6, .x (.int .i64 x4)), (12, .x (.bool (decide (x4 < ((a0.length : Nat) : Int)))))] [⟨o6, 1, vl (iD .i64) x5⟩] (by kernel_rfl) (by kernel_rfl) ?_
    refine JC.skipT ?_
    refine JC.cond (e := (decide (x4 < ((a0.length : Nat) : Int)))) (by kernel_rfl) (fun h10 => ?_) (fun h10 => ?_)
    · refine JC.skipT ?_
      refine JC.seq ?_
      refine JC.bind (A := fun v ex E R => ∃ (o12 : Option Nat), ex = .normal ∧ E = [(0, .c 1 (.lst 5 (a0.map NodeT.D))), (1, .x (.int .i64 a1)), (5, .ref o12 0 v.length), (6, .x (.int .i64 x4))] ∧ R = [⟨o12, 1, vl (iD .i64) v⟩]) ?_ ?_
      · refine JC.block ?_
        refine JC.seq ?_
        refine JC.region fun b13 => ?_
        refine JS.run 2 (by kernel_rfl) ?_
        refine JS.bind fun r14 h15 => ?_
        refine JS.callS [] (eyotref18_parent_ok k a0 x4 r14 h15) ⟨rfl, argC (n := 1) (by kernel_rfl) (by kernel_rfl) (by kernel_rfl), rfl, argX (d := (.int .i64 x4)) (by kernel_rfl) (by kernel_rfl), trivial⟩ (by kernel_rfl) (by kernel_rfl) (by kernel_rfl) ?_
        refine JS.run 2 (by kernel_rfl) ?_
        refine JS.nil ?_
        refine JC.to2 [(0, .c 1 (.lst 5 (a0.map NodeT.D))), (1, .x (.int .i64 a1)), (5, .ref o6 0 x5.length), (6, .x (.int .i64 x4)), (19, .x (.bool (r14 == a1)))] [⟨o6, 1, vl (iD .i64) x5⟩] (by kernel_rfl) (by kernel_rfl) ?_
        refine JC.skipT ?_
        refine JC.cond (e := (r14 == a1)) (by kernel_rfl) (fun h16 => ?_) (fun h16 => ?_)
        · refine JC.region fun b17 => ?_
          refine JS.run 2 (by kernel_rfl) ?_
          refine JS.buildSlice (c := (iD .i64)) ([x4] : List Int) (by kernel_rfl) (by kernel_rfl) (by kernel_rfl) (by kernel_rfl) (by kernel_rfl) (fun id18 => ?_)
          refine JS.appT (c := (iD .i64)) (l := x5) (k := ([x4] : List Int)) (o := o6) 0 (by kernel_rfl) (by kernel_rfl) (srcT (c := (iD .i64)) (l := ([x4] : List Int)) (o := (some id18)) 1 (by kernel_rfl) (by kernel_rfl)) (by kernel_rfl) (by kernel_rfl) (by kernel_rfl) (fun o19 => ?_)
          refine JS.run 1 (by kernel_rfl) ?_
          refine JS.nil ?_
          refine JC.drop 1 ?_
          refine JC.to2 [(0, .c 1 (.lst 5 (a0.map NodeT.D))), (1, .x (.int .i64 a1)), (5, .ref o19 0 ((x5 ++ ([x4] : List Int)).length)), (6, .x (.int .i64 x4))] [⟨o19, 1, vl (iD .i64) (x5 ++ ([x4] : List Int))⟩] (by kernel_rfl) (by kernel_rfl) ?_
          refine JC.skipB ?_
          refine JC.to2 [(0, .c 1 (.lst 5 (a0.map NodeT.D))), (1, .x (.int .i64 a1)), (5, .ref o19 0 ((x5 ++ ([x4] : List Int)).length)), (6, .x (.int .i64 x4))] [⟨o19, 1, vl (iD .i64) (x5 ++ ([x4] : List Int))⟩] (by kernel_rfl) (by kernel_rfl) ?_
          exact JC.got (ex := .normal) rfl ⟨o19, rfl, rfl, rfl⟩
        · refine JC.skipB ?_
          refine JC.to2 [(0, .c 1 (.lst 5 (a0.map NodeT.D))), (1, .x (.int .i64 a1)), (5, .ref o6 0 x5.length), (6, .x (.int .i64 x4))] [⟨o6, 1, vl (iD .i64) x5⟩] (by kernel_rfl) (by kernel_rfl) ?_
          exact JC.got (ex := .normal) rfl ⟨o6, rfl, rfl, rfl⟩
      · rintro y11 ex E' R' hA
        obtain ⟨o12, rfl, rfl, rfl⟩ := hA
        refine JC.to2 [(0, .c 1 (.lst 5 (a0.map NodeT.D))), (1, .x (.int .i64 a1)), (5, .ref o12 0 y11.length), (6, .x (.int .i64 x4))] [⟨o12, 1, vl (iD .i64) y11⟩] (by kernel_rfl) (by kernel_rfl) ?_
        refine JC.skipT ?_
        refine JC.region fun b20 => ?_
        refine JS.run 3 (by kernel_rfl) ?_
        refine JS.nil ?_
        refine JC.to2 [(0, .c 1 (.lst 5 (a0.map NodeT.D))), (1, .x (.int .i64 a1)), (5, .ref o12 0 y11.length), (6, .x (.int .i64 (IntKind.i64.wrap (x4 + (1 : Int)))))] [⟨o12, 1, vl (iD .i64) y11⟩] (by kernel_rfl) (by kernel_rfl) ?_
        refine JC.skipL ?_
        refine JC.to2 [(0, .c 1 (.lst 5 (a0.map NodeT.D))), (1, .x (.int .i64 a1)), (5, .ref o12 0 y11.length), (6, .x (.int .i64 (IntKind.i64.wrap (x4 + (1 : Int)))))] [⟨o12, 1, vl (iD .i64) y11⟩] (by kernel_rfl) (by kernel_rfl) ?_
        exact ih (IntKind.i64.wrap (x4 + (1 : Int))) y11 o12
    · refine JC.exitT ?_
      refine JC.exitL ?_
      refine JC.to2 [(5, .ref o6 0 x5.length)] [⟨o6, 1, vl (iD .i64) x5⟩] (by kernel_rfl) (by kernel_rfl) ?_
      exact JC.got (ex := (.exit 0)) rfl ⟨o6, rfl, rfl, rfl⟩
def eyotref18_Kids (k : Nat) (a0 : (List NodeT)) (a1 : Int) : Option (List Int) :=
  (eyotref18_Kids_l0 a0 a1 k (IntKind.i64.wrap (a1 + (1 : Int))) ([] : List Int)).bind fun y7 => some y7
theorem eyotref18_Kids_ok (k : Nat) (a0 : (List NodeT)) (a1 : Int) : ∀ r, eyotref18_Kids k a0 a1 = some r → CallOk prog 114 [.c 1 (.lst 5 (a0.map NodeT.D)), .x (.int .i64 a1)] false [.own 1 (vl (iD .i64) r)] := by
  refine CallOk.of' (pf := pf114) (ts := [4]) (Res := fun (r : (List Int)) => [.own 1 (vl (iD .i64) r)]) rfl rfl rfl rfl ?_
  unfold eyotref18_Kids pf114
  refine JC.seq ?_
  refine JC.region fun b1 => ?_
  refine JS.run 1 (by kernel_rfl) ?_
  refine JS.nil ?_
  refine JC.to2 [(0, .c 1 (.lst 5 (a0.map NodeT.D))), (1, .x (.int .i64 a1))] [] (by kernel_rfl) (by kernel_rfl) ?_
  refine JC.skipT ?_
  refine JC.seq ?_
  refine JC.region fun b2 => ?_
  refine JS.run 1 (by kernel_rfl) ?_
  refine JS.nil ?_
  refine JC.to2 [(0, .c 1 (.lst 5 (a0.map NodeT.D))), (1, .x (.int .i64 a1)), (5, .x .nil)] [] (by kernel_rfl) (by kernel_rfl) ?_
  refine JC.skipT ?_
  refine JC.seq ?_
  refine JC.seq ?_
  refine JC.region fun b3 => ?_
  refine JS.run 3 (by kernel_rfl) ?_
  refine JS.nil ?_
  refine JC.to2 [(0, .c 1 (.lst 5 (a0.map NodeT.D))), (1, .x (.int .i64 a1)), (5, .x .nil), (6, .x (.int .i64 (IntKind.i64.wrap (a1 + (1 : Int)))))] [] (by kernel_rfl) (by kernel_rfl) ?_
  refine JC.skipT ?_
  refine JC.block ?_
  refine JC.to2 [(0, .c 1 (.lst 5 (a0.map NodeT.D))), (1, .x (.int .i64 a1)), (5, .x .nil), (6, .x (.int .i64 (IntKind.i64.wrap (a1 + (1 : Int)))))] [] (by kernel_rfl) (by kernel_rfl) ?_
  refine JC.virt 5 1 (by kernel_rfl) ?_
  refine JC.to2 [(0, .c 1 (.lst 5 (a0.map NodeT.D))), (1, .x (.int .i64 a1)), (5, .ref none 0 (([] : List Int).length)), (6, .x (.int .i64 (IntKind.i64.wrap (a1 + (1 : Int)))))] [⟨none, 1, vl (iD .i64) ([] : List Int)⟩] (by kernel_rfl) (by kernel_rfl) ?_
  refine JC.bind (A := fun v ex E R => ∃ (o8 : Option Nat), ex = (.exit 0) ∧ E = [(5, .ref o8 0 v.length)] ∧ R = [⟨o8, 1, vl (iD .i64) v⟩]) (eyotref18_Kids_l0_ok a0 a1 k (IntKind.i64.wrap (a1 + (1 : Int))) ([] : List Int) none) ?_
  rintro y7 ex E' R' hA
  obtain ⟨o8, rfl, rfl, rfl⟩ := hA
  refine JC.to2 [(5, .ref o8 0 y7.length)] [⟨o8, 1, vl (iD .i64) y7⟩] (by kernel_rfl) (by kernel_rfl) ?_
  refine JC.exitB ?_
  refine JC.skipT ?_
  refine JC.seq ?_
  refine JC.region fun b21 => ?_
  refine JS.run 2 (by kernel_rfl) ?_
  refine JS.nil ?_
  refine JC.to2 [(4, .ref o8 0 y7.length)] [⟨o8, 1, vl (iD .i64) y7⟩] (by kernel_rfl) (by kernel_rfl) ?_
  refine JC.skipT ?_
  refine JC.relen (o := o8) (off := 0) (n := y7.length) (n' := (vl (iD .i64) y7).length) 4 (by kernel_rfl) (vl_len _ _).symm ?_
  exact JC.fin (ex := .ret) (vs := [.ref o8 0 (vl (iD .i64) y7).length]) (is := [0]) rfl ret_ne (by kernel_rfl) (Outs.own (i := 0) (by kernel_rfl) (vl_out fun _ => rfl) rfl Outs.nil)
/-! eyot/eyotref13.SameInts -/
def eyotref13_SameInts_l0 (a0 : (List Int)) (a1 : (List Int)) : Nat → Int → Option (Unit ⊕ Unit)
  | 0, _ => none
  | k + 1, x6 => cond (decide (x6 < ((a0.length : Nat) : Int))) ((at? a0 x6).bind fun a10 => (at? a1 x6).bind fun a12 => cond (a10 != a12) (some (Sum.inr ())) (eyotref13_SameInts_l0 a0 a1 k (IntKind.i64.wrap (x6 + (1 : Int))))) (some (Sum.inl ()))
theorem eyotref13_SameInts_l0_ok (a0 : (List Int)) (a1 : (List Int))  : ∀ (k : Nat) (x6 : Int), JC prog noFr 26 [(0, .c 1 (.lst 1 (a0.map (iD .i64)))), (1, .c 1 (.lst 1 (a1.map (iD .i64)))), (5, .x (.int .i64 x6))] [] (.loop pf6_L0) (eyotref13_SameInts_l0 a0 a1 k x6) (fun x => GotA 26 noFr ((fun v ex E R => match v with | Sum.inl v => ex = (.exit 0) ∧ E = [] ∧ R = [] | Sum.inr v => ex = .ret ∧ E = [(4, .x (.bool false))] ∧ R = []) x)) := by
  intro k
  induction k with
  | zero =>
    intro x6
    exact JC.no
  | succ k ih =>
    intro x6
    rw [eyotref13_SameInts_l0]
    refine JC.loop ?_
    refine JC.seq ?_
    refine JC.seq ?_
    refine JC.region fun b7 => ?_
    refine JS.run 2 (by kernel_rfl) ?_
    refine JS.lenC (c := (iD .i64)) (l := a0) (n := 1) (sz := 1) (by kernel_rfl) (by kernel_rfl) (by kernel_rfl) ?_
    refine JS.run 1 (by kernel_rfl) ?_
    refine JS.nil ?_
    refine JC.to2 [(0, .c 1 (.lst 1 (a0.map (iD .i64)))), (1, .c 1 (.lst 1 (a1.map (iD .i64)))), (5, .x (.int .i64 x6)), (14, .x (.bool (decide (x6 < ((a0.length : Nat) : Int)))))] [] (by kernel_rfl) (by kernel_rfl) ?_
    refine JC.skipT ?_
    refine JC.cond (e := (decide (x6 < ((a0.length : Nat) : Int)))) (by kernel_rfl) (fun h8 => ?_) (fun h8 => ?_)
    · refine JC.skipT ?_
      refine JC.seq ?_
      refine JC.block ?_
      refine JC.seq ?_
      refine JC.region fun b9 => ?_
      refine JS.run 2 (by kernel_rfl) ?_
      refine JS.idxC (c := (iD .i64)) (l := a0) (n := 1) (kk := .i64) (z := x6) (by kernel_rfl) (by kernel_rfl) (by kernel_rfl) (by kernel_rfl) (fun a10 h11 => ?_)
      refine JS.run 3 (by kernel_rfl) ?_
      refine JS.idxC (c := (iD .i64)) (l := a1) (n := 1) (kk := .i64) (z := x6) (by kernel_rfl) (by kernel_rfl) (by kernel_rfl) (by kernel_rfl) (fun a12 h13 => ?_)
      refine JS.run 2 (by kernel_rfl) ?_
      refine JS.nil ?_
      refine JC.to2 [(0, .c 1 (.lst 1 (a0.map (iD .i64)))), (1, .c 1 (.lst 1 (a1.map (iD .i64)))), (5, .x (.int .i64 x6)), (25, .x (.bool (a10 != a12)))] [] (by kernel_rfl) (by kernel_rfl) ?_
      refine JC.skipT ?_
      refine JC.cond (e := (a10 != a12)) (by kernel_rfl) (fun h14 => ?_) (fun h14 => ?_)
      · refine JC.seq ?_
        refine JC.region fun b15 => ?_
        refine JS.run 1 (by kernel_rfl) ?_
        refine JS.nil ?_
        refine JC.to2 [(4, .x (.bool false))] [] (by kernel_rfl) (by kernel_rfl) ?_
        refine JC.skipT ?_
        refine JC.retB ?_
        refine JC.retT ?_
        refine JC.retL ?_
        refine JC.to2 [(4, .x (.bool false))] [] (by kernel_rfl) (by kernel_rfl) ?_
        exact JC.got (ex := .ret) rfl ⟨rfl, rfl, rfl⟩
      · refine JC.skipB ?_
        refine JC.skipT ?_
        refine JC.region fun b16 => ?_
        refine JS.run 3 (by kernel_rfl) ?_
        refine JS.nil ?_
        refine JC.to2 [(0, .c 1 (.lst 1 (a0.map (iD .i64)))), (1, .c 1 (.lst 1 (a1.map (iD .i64)))), (5, .x (.int .i64 (IntKind.i64.wrap (x6 + (1 : Int)))))] [] (by kernel_rfl) (by kernel_rfl) ?_
        refine JC.skipL ?_
        refine JC.to2 [(0, .c 1 (.lst 1 (a0.map (iD .i64)))), (1, .c 1 (.lst 1 (a1.map (iD .i64)))), (5, .x (.int .i64 (IntKind.i64.wrap (x6 + (1 : Int)))))] [] (by kernel_rfl) (by kernel_rfl) ?_
        exact ih (IntKind.i64.wrap (x6 + (1 : Int)))
    · refine JC.exitT ?_
      refine JC.exitL ?_
      refine JC.to2 [] [] (by kernel_rfl) (by kernel_rfl) ?_
      exact JC.got (ex := (.exit 0)) rfl ⟨rfl, rfl, rfl⟩
def eyotref13_SameInts (k : Nat) (a0 : (List Int)) (a1 : (List Int)) : Option Bool :=
  cond (((a0.length : Nat) : Int) != ((a1.length : Nat) : Int)) (some false) ((eyotref13_SameInts_l0 a0 a1 k (0 : Int)).bind fun v => match v with | Sum.inl _ => some true | Sum.inr _ => some false)
theorem eyotref13_SameInts_ok (k : Nat) (a0 : (List Int)) (a1 : (List Int)) : ∀ r, eyotref13_SameInts k a0 a1 = some r → CallOk prog 6 [.c 1 (.lst 1 (a0.map (iD .i64))), .c 1 (.lst 1 (a1.map (iD .i64)))] false [.sc (.x (.bool r))] := by
  refine CallOk.of' (pf := pf6) (ts := [4]) (Res := fun (r : Bool) => [.sc (.x (.bool r))]) rfl rfl rfl rfl ?_
  unfold eyotref13_SameInts pf6
  refine JC.seq ?_
  refine JC.region fun b1 => ?_
  refine JS.run 1 (by kernel_rfl) ?_
  refine JS.nil ?_
  refine JC.to2 [(0, .c 1 (.lst 1 (a0.map (iD .i64)))), (1, .c 1 (.lst 1 (a1.map (iD .i64))))] [] (by kernel_rfl) (by kernel_rfl) ?_
  refine JC.skipT ?_
  refine JC.seq ?_
  refine JC.seq ?_
  refine JC.region fun b2 => ?_
  refine JS.run 1 (by kernel_rfl) ?_
  refine JS.lenC (c := (iD .i64)) (l := a0) (n := 1) (sz := 1) (by kernel_rfl) (by kernel_rfl) (by kernel_rfl) ?_
  refine JS.run 1 (by kernel_rfl) ?_
  refine JS.lenC (c := (iD .i64)) (l := a1) (n := 1) (sz := 1) (by kernel_rfl) (by kernel_rfl) (by kernel_rfl) ?_
  refine JS.run 1 (by kernel_rfl) ?_
  refine JS.nil ?_
  refine JC.to2 [(0, .c 1 (.lst 1 (a0.map (iD .i64)))), (1, .c 1 (.lst 1 (a1.map (iD .i64)))), (10, .x (.bool (((a0.length : Nat) : Int) != ((a1.length : Nat) : Int))))] [] (by kernel_rfl) (by kernel_rfl) ?_
  refine JC.skipT ?_
  refine JC.cond (e := (((a0.length : Nat) : Int) != ((a1.length : Nat) : Int))) (by kernel_rfl) (fun h3 => ?_) (fun h3 => ?_)
  · refine JC.seq ?_
    refine JC.region fun b4 => ?_
    refine JS.run 1 (by kernel_rfl) ?_
    refine JS.nil ?_
    refine JC.to2 [(4, .x (.bool false))] [] (by kernel_rfl) (by kernel_rfl) ?_
    refine JC.skipT ?_
    refine JC.retT ?_
    exact JC.fin (ex := .ret) (vs := [.x (.bool false)]) (is := []) rfl ret_ne (by kernel_rfl) (Outs.sc rfl Outs.nil)
  · refine JC.skipT ?_
    refine JC.seq ?_
    refine JC.seq ?_
    refine JC.region fun b5 => ?_
    refine JS.run 1 (by kernel_rfl) ?_
    refine JS.nil ?_
    refine JC.to2 [(0, .c 1 (.lst 1 (a0.map (iD .i64)))), (1, .c 1 (.lst 1 (a1.map (iD .i64)))), (5, .x (.int .i64 (0 : Int)))] [] (by kernel_rfl) (by kernel_rfl) ?_
    refine JC.skipT ?_
    refine JC.block ?_
    refine JC.to2 [(0, .c 1 (.lst 1 (a0.map (iD .i64)))), (1, .c 1 (.lst 1 (a1.map (iD .i64)))), (5, .x (.int .i64 (0 : Int)))] [] (by kernel_rfl) (by kernel_rfl) ?_
    refine JC.to2 [(0, .c 1 (.lst 1 (a0.map (iD .i64)))), (1, .c 1 (.lst 1 (a1.map (iD .i64)))), (5, .x (.int .i64 (0 : Int)))] [] (by kernel_rfl) (by kernel_rfl) ?_
    refine JC.bind (A := fun v ex E R => match v with | Sum.inl v => ex = (.exit 0) ∧ E = [] ∧ R = [] | Sum.inr v => ex = .ret ∧ E = [(4, .x (.bool false))] ∧ R = []) (eyotref13_SameInts_l0_ok a0 a1 k (0 : Int)) ?_
    rintro v ex E' R' hA
    rcases v with _ | _
    · obtain ⟨rfl, rfl, rfl⟩ := hA
      refine JC.to2 [] [] (by kernel_rfl) (by kernel_rfl) ?_
      refine JC.exitB ?_
      refine JC.skipT ?_
      refine JC.seq ?_
      refine JC.region fun b17 => ?_
      refine JS.run 1 (by kernel_rfl) ?_
      refine JS.nil ?_
      refine JC.to2 [(4, .x (.bool true))] [] (by kernel_rfl) (by kernel_rfl) ?_
      refine JC.skipT ?_
      exact JC.fin (ex := .ret) (vs := [.x (.bool true)]) (is := []) rfl ret_ne (by kernel_rfl) (Outs.sc rfl Outs.nil)
    · obtain ⟨rfl, rfl, rfl⟩ := hA
      refine JC.to2 [(4, .x (.bool false))] [] (by kernel_rfl) (by kernel_rfl) ?_
      refine JC.retB ?_
      refine JC.retT ?_
      exact JC.fin (ex := .ret) (vs := [.x (.bool false)]) (is := []) rfl ret_ne (by kernel_rfl) (Outs.sc rfl Outs.nil)
/-! eyot/eyotref18.May -/
def eyotref18_May_l1 (a0 : (List NodeT)) (x3 : Int) (a7 : NodeT) (r52 : (List Int)) : Nat → Int → Option (Unit ⊕ Unit)
  | 0, _ => none
  | k + 1, x56 => cond (decide (x56 < ((r52.length : Nat) : Int))) (((at? r52 x56).bind fun a64 => cond (a64 == x3) ((at? r52 (IntKind.i64.wrap (x56 - (1 : Int)))).bind fun a69 => (at? a0 a69).bind fun a73 => some (decide (a7.from_ < a73.to_))) (some false)).bind fun y62 => cond y62 (some (Sum.inr ())) (eyotref18_May_l1 a0 x3 a7 r52 k (IntKind.i64.wrap (x56 + (1 : Int))))) (some (Sum.inl ()))
theorem eyotref18_May_l1_ok (a0 : (List NodeT)) (x3 : Int) (a7 : NodeT) (r52 : (List Int))  : ∀ (k : Nat) (x56 : Int) (o58 : Option Nat) (id57 : Nat), JC prog noFr 134 [(0, .c 1 (.lst 5 (a0.map NodeT.D))), (3, .x (.int .i64 x3)), (4, .ptr id57 5 0 0), (7, .ref o58 0 r52.length), (8, .x (.int .i64 x56))] [⟨(some id57), 5, [[.x (.int .i64 a7.Depth), .x (.int .i64 a7.Rule), .x (.int .i64 a7.Token), .x (.int .i64 a7.from_), .x (.int .i64 a7.to_)]]⟩, ⟨o58, 1, vl (iD .i64) r52⟩] (.loop pf109_L0) (eyotref18_May_l1 a0 x3 a7 r52 k x56) (fun x => GotA 134 noFr ((fun v ex E R => match v with | Sum.inl v => ex = (.exit 2) ∧ E = [(0, .c 1 (.lst 5 (a0.map NodeT.D))), (3, .x (.int .i64 x3))] ∧ R = [] | Sum.inr v => ex = .ret ∧ E = [(2, .x (.bool false))] ∧ R = []) x)) := by
  intro k
  induction k with
  | zero =>
    intro x56 o58 id57
    exact JC.no
  | succ k ih =>
    intro x56 o58 id57
    rw [eyotref18_May_l1]
    refine JC.loop ?_
    refine JC.seq ?_
    refine JC.seq ?_
    refine JC.region fun b59 => ?_
    refine JS.run 4 (by kernel_rfl) ?_
    refine JS.nil ?_
    refine JC.to2 [(0, .c 1 (.lst 5 (a0.map NodeT.D))), (3, .x (.int .i64 x3)), (4, .ptr id57 5 0 0), (7, .ref o58 0 r52.length), (8, .x (.int .i64 x56)), (108, .x (.bool (decide (x56 < ((r52.length : Nat) : Int)))))] [⟨(some id57), 5, [[.x (.int .i64 a7.Depth), .x (.int .i64 a7.Rule), .x (.int .i64 a7.Token), .x (.int .i64 a7.from_), .x (.int .i64 a7.to_)]]⟩, ⟨o58, 1, vl (iD .i64) r52⟩] (by kernel_rfl) (by kernel_rfl) ?_
    refine JC.skipT ?_
    refine JC.cond (e := (decide (x56 < ((r52.length : Nat) : Int)))) (by kernel_rfl) (fun h60 => ?_) (fun h60 => ?_)
    · refine JC.skipT ?_
      refine JC.seq ?_
      refine JC.block ?_
      refine JC.seq ?_
      refine JC.bind (A := fun v ex E R => ∃ (o61 : Option Nat), ex = .normal ∧ E = [(0, .c 1 (.lst 5 (a0.map NodeT.D))), (3, .x (.int .i64 x3)), (4, .ptr id57 5 0 0), (7, .ref o61 0 r52.length), (8, .x (.int .i64 x56)), (130, .x (.bool v))] ∧ R = [⟨(some id57), 5, [[.x (.int .i64 a7.Depth), .x (.int .i64 a7.Rule), .x (.int .i64 a7.Token), .x (.int .i64 a7.from_), .x (.int .i64 a7.to_)]]⟩, ⟨o61, 1, vl (iD .i64) r52⟩]) ?_ ?_
      · refine JC.region fun b63 => ?_
        refine JS.run 2 (by kernel_rfl) ?_
        refine JS.idxT (c := (iD .i64)) (l := r52) (o := o58) (kk := .i64) (z := x56) 1 (by kernel_rfl) (by kernel_rfl) (by kernel_rfl) (by kernel_rfl) (by kernel_rfl) (fun id66 a64 e67 h65 => ?_)
        subst e67
        refine JS.loadO (id := id66) (sz := 1) (p := x56.toNat) (j := 0) (es := (vl (iD .i64) r52)) (e := (cv (iD .i64) a64)) 1 (by kernel_rfl) (vl_get h65) (by kernel_rfl) (by kernel_rfl) (by kernel_rfl) (by kernel_rfl) ?_
        refine JS.run 3 (by kernel_rfl) ?_
        refine JS.split (e := (a64 == x3)) 117 (by kernel_rfl) (fun h68 => ?_) (fun h68 => ?_)
        · refine JS.run 1 (by kernel_rfl) ?_
          refine JS.loadO (id := id57) (sz := 5) (p := 0) (j := 3) (es := [[.x (.int .i64 a7.Depth), .x (.int .i64 a7.Rule), .x (.int .i64 a7.Token), .x (.int .i64 a7.from_), .x (.int .i64 a7.to_)]]) (e := [.x (.int .i64 a7.Depth), .x (.int .i64 a7.Rule), .x (.int .i64 a7.Token), .x (.int .i64 a7.from_), .x (.int .i64 a7.to_)]) 0 (by kernel_rfl) (by kernel_rfl) (by kernel_rfl) (by kernel_rfl) (by kernel_rfl) (by kernel_rfl) ?_
          refine JS.run 4 (by kernel_rfl) ?_
          refine JS.idxT (c := (iD .i64)) (l := r52) (o := (some id66)) (kk := .i64) (z := (IntKind.i64.wrap (x56 - (1 : Int)))) 1 (by kernel_rfl) (by kernel_rfl) (by kernel_rfl) (by kernel_rfl) (by kernel_rfl) (fun id71 a69 e72 h70 => ?_)
          have e72' : id66 = id71 := by injection e72
          subst e72'
          refine JS.loadO (id := id66) (sz := 1) (p := (IntKind.i64.wrap (x56 - (1 : Int))).toNat) (j := 0) (es := (vl (iD .i64) r52)) (e := (cv (iD .i64) a69)) 1 (by kernel_rfl) (vl_get h70) (by kernel_rfl) (by kernel_rfl) (by kernel_rfl) (by kernel_rfl) ?_
          refine JS.idxC (c := NodeT.D) (l := a0) (n := 1) (kk := .i64) (z := a69) (by kernel_rfl) (by kernel_rfl) (by kernel_rfl) (by kernel_rfl) (fun a73 h74 => ?_)
          refine JS.run 4 (by kernel_rfl) ?_
          refine JS.nil ?_
          refine JC.to2 [(0, .c 1 (.lst 5 (a0.map NodeT.D))), (3, .x (.int .i64 x3)), (4, .ptr id57 5 0 0), (7, .ref (some id66) 0 r52.length), (8, .x (.int .i64 x56)), (130, .x (.bool (decide (a7.from_ < a73.to_))))] [⟨(some id57), 5, [[.x (.int .i64 a7.Depth), .x (.int .i64 a7.Rule), .x (.int .i64 a7.Token), .x (.int .i64 a7.from_), .x (.int .i64 a7.to_)]]⟩, ⟨(some id66), 1, vl (iD .i64) r52⟩] (by kernel_rfl) (by kernel_rfl) ?_
          refine JC.to2 [(0, .c 1 (.lst 5 (a0.map NodeT.D))), (3, .x (.int .i64 x3)), (4, .ptr id57 5 0 0), (7, .ref (some id66) 0 r52.length), (8, .x (.int .i64 x56)), (130, .x (.bool (decide (a7.from_ < a73.to_))))] [⟨(some id57), 5, [[.x (.int .i64 a7.Depth), .x (.int .i64 a7.Rule), .x (.int .i64 a7.Token), .x (.int .i64 a7.from_), .x (.int .i64 a7.to_)]]⟩, ⟨(some id66), 1, vl (iD .i64) r52⟩] (by kernel_rfl) (by kernel_rfl) ?_
          exact JC.got (ex := .normal) rfl ⟨(some id66), rfl, rfl, rfl⟩
        · refine JS.run 13 (by kernel_rfl) ?_
          refine JS.nil ?_
          refine JC.to2 [(0, .c 1 (.lst 5 (a0.map NodeT.D))), (3, .x (.int .i64 x3)), (4, .ptr id57 5 0 0), (7, .ref (some id66) 0 r52.length), (8, .x (.int .i64 x56)), (130, .x (.bool false))] [⟨(some id57), 5, [[.x (.int .i64 a7.Depth), .x (.int .i64 a7.Rule), .x (.int .i64 a7.Token), .x (.int .i64 a7.from_), .x (.int .i64 a7.to_)]]⟩, ⟨(some id66), 1, vl (iD .i64) r52⟩] (by kernel_rfl) (by kernel_rfl) ?_
          refine JC.to2 [(0, .c 1 (.lst 5 (a0.map NodeT.D))), (3, .x (.int .i64 x3)), (4, .ptr id57 5 0 0), (7, .ref (some id66) 0 r52.length), (8, .x (.int .i64 x56)), (130, .x (.bool false))] [⟨(some id57), 5, [[.x (.int .i64 a7.Depth), .x (.int .i64 a7.Rule), .x (.int .i64 a7.Token), .x (.int .i64 a7.from_), .x (.int .i64 a7.to_)]]⟩, ⟨(some id66), 1, vl (iD .i64) r52⟩] (by kernel_rfl) (by kernel_rfl) ?_
          exact JC.got (ex := .normal) rfl ⟨(some id66), rfl, rfl, rfl⟩
      · rintro y62 ex E' R' hA
        obtain ⟨o61, rfl, rfl, rfl⟩ := hA
        refine JC.to2 [(0, .c 1 (.lst 5 (a0.map NodeT.D))), (3, .x (.int .i64 x3)), (4, .ptr id57 5 0 0), (7, .ref o61 0 r52.length), (8, .x (.int .i64 x56)), (130, .x (.bool y62))] [⟨(some id57), 5, [[.x (.int .i64 a7.Depth), .x (.int .i64 a7.Rule), .x (.int .i64 a7.Token), .x (.int .i64 a7.from_), .x (.int .i64 a7.to_)]]⟩, ⟨o61, 1, vl (iD .i64) r52⟩] (by kernel_rfl) (by kernel_rfl) ?_
        refine JC.skipT ?_
        refine JC.cond (e := y62) (by kernel_rfl) (fun h75 => ?_) (fun h75 => ?_)
        · refine JC.seq ?_
          refine JC.region fun b76 => ?_
          refine JS.run 1 (by kernel_rfl) ?_
          refine JS.nil ?_
          refine JC.drop 1 ?_
          refine JC.drop 0 ?_
          refine JC.to2 [(2, .x (.bool false))] [] (by kernel_rfl) (by kernel_rfl) ?_
          refine JC.skipT ?_
          refine JC.retB ?_
          refine JC.retT ?_
          refine JC.retL ?_
          refine JC.to2 [(2, .x (.bool false))] [] (by kernel_rfl) (by kernel_rfl) ?_
          exact JC.got (ex := .ret) rfl ⟨rfl, rfl, rfl⟩
        · refine JC.skipB ?_
          refine JC.skipT ?_
          refine JC.region fun b77 => ?_
          refine JS.run 3 (by kernel_rfl) ?_
          refine JS.nil ?_
          refine JC.to2 [(0, .c 1 (.lst 5 (a0.map NodeT.D))), (3, .x (.int .i64 x3)), (4, .ptr id57 5 0 0), (7, .ref o61 0 r52.length), (8, .x (.int .i64 (IntKind.i64.wrap (x56 + (1 : Int)))))] [⟨(some id57), 5, [[.x (.int .i64 a7.Depth), .x (.int .i64 a7.Rule), .x (.int .i64 a7.Token), .x (.int .i64 a7.from_), .x (.int .i64 a7.to_)]]⟩, ⟨o61, 1, vl (iD .i64) r52⟩] (by kernel_rfl) (by kernel_rfl) ?_
          refine JC.skipL ?_
          refine JC.to2 [(0, .c 1 (.lst 5 (a0.map NodeT.D))), (3, .x (.int .i64 x3)), (4, .ptr id57 5 0 0), (7, .ref o61 0 r52.length), (8, .x (.int .i64 (IntKind.i64.wrap (x56 + (1 : Int)))))] [⟨(some id57), 5, [[.x (.int .i64 a7.Depth), .x (.int .i64 a7.Rule), .x (.int .i64 a7.Token), .x (.int .i64 a7.from_), .x (.int .i64 a7.to_)]]⟩, ⟨o61, 1, vl (iD .i64) r52⟩] (by kernel_rfl) (by kernel_rfl) ?_
          exact ih (IntKind.i64.wrap (x56 + (1 : Int))) o61 id57
    · refine JC.exitT ?_
      refine JC.exitL ?_
      refine JC.drop 1 ?_
      refine JC.drop 0 ?_
      refine JC.to2 [(0, .c 1 (.lst 5 (a0.map NodeT.D))), (3, .x (.int .i64 x3))] [] (by kernel_rfl) (by kernel_rfl) ?_
      exact JC.got (ex := (.exit 2)) rfl ⟨rfl, rfl, rfl⟩
def eyotref18_May_l0 (a0 : (List NodeT)) : Nat → Int → Option (Unit ⊕ Unit)
  | 0, _ => none
  | k + 1, x3 => cond (decide (x3 < ((a0.length : Nat) : Int))) (((at? a0 x3).bind fun a7 => (cond (x3 == (0 : Int)) (cond (a7.Depth != (0 : Int)) (some true) (cond (decide (x3 > (0 : Int))) (cond (decide (a7.Depth < (1 : Int))) (some true) ((at? a0 (IntKind.i64.wrap (x3 - (1 : Int)))).bind fun a16 => cond (decide (a7.Depth > (IntKind.i64.wrap (a16.Depth + (1 : Int))))) (some true) (some (decide (a7.from_ > a7.to_))))) (some (decide (a7.from_ > a7.to_))))) (cond (decide (x3 > (0 : Int))) (cond (decide (a7.Depth < (1 : Int))) (some true) ((at? a0 (IntKind.i64.wrap (x3 - (1 : Int)))).bind fun a21 => cond (decide (a7.Depth > (IntKind.i64.wrap (a21.Depth + (1 : Int))))) (some true) (some (decide (a7.from_ > a7.to_))))) (some (decide (a7.from_ > a7.to_))))).bind fun y10 => cond y10 (some (Sum.inr ())) ((cond (decide (a7.Token ≥ (0 : Int))) (some (a7.Rule == (-1 : Int))) (some false)).bind fun y26 => (cond (!y26) (cond (decide (a7.Rule ≥ (0 : Int))) (some (!(a7.Token == (-1 : Int)))) (some true)) (some false)).bind fun y29 => cond y29 (some (Sum.inr ())) (cond (x3 == (0 : Int)) (some (Sum.inl ())) ((eyotref18_parent k a0 x3).bind fun r38 => (at? a0 r38).bind fun a40 => (cond (decide (a7.from_ < a40.from_)) (some true) (cond (decide (a7.to_ > a40.to_)) (some true) (some (decide (a40.Token ≥ (0 : Int)))))).bind fun y43 => cond y43 (some (Sum.inr ())) ((eyotref18_parent k a0 x3).bind fun r50 => (eyotref18_Kids k a0 r50).bind fun r52 => (eyotref18_May_l1 a0 x3 a7 r52 k (1 : Int)).bind fun v => match v with | Sum.inl _ => some (Sum.inl ()) | Sum.inr _ => some (Sum.inr ())))))).bind fun v => match v with | Sum.inl _ => eyotref18_May_l0 a0 k (IntKind.i64.wrap (x3 + (1 : Int))) | Sum.inr _ => some (Sum.inr ())) (some (Sum.inl ()))
theorem eyotref18_May_l0_ok (a0 : (List NodeT))  : ∀ (k : Nat) (x3 : Int), JC prog noFr 134 [(0, .c 1 (.lst 5 (a0.map NodeT.D))), (3, .x (.int .i64 x3))] [] (.loop pf109_L1) (eyotref18_May_l0 a0 k x3) (fun x => GotA 134 noFr ((fun v ex E R => match v with | Sum.inl v => ex = (.exit 0) ∧ E = [(0, .c 1 (.lst 5 (a0.map NodeT.D)))] ∧ R = [] | Sum.inr v => ex = .ret ∧ E = [(2, .x (.bool false))] ∧ R = []) x)) := by
  intro k
  induction k with
  | zero =>
    intro x3
    exact JC.no
  | succ k ih =>
    intro x3
    rw [eyotref18_May_l0]
    refine JC.loop ?_
    refine JC.seq ?_
    refine JC.seq ?_
    refine JC.region fun b4 => ?_
    refine JS.run 2 (by kernel_rfl) ?_
    refine JS.lenC (c := NodeT.D) (l := a0) (n := 1) (sz := 5) (by kernel_rfl) (by kernel_rfl) (by kernel_rfl) ?_
    refine JS.run 1 (by kernel_rfl) ?_
    refine JS.nil ?_
    refine JC.to2 [(0, .c 1 (.lst 5 (a0.map NodeT.D))), (3, .x (.int .i64 x3)), (12, .x (.bool (decide (x3 < ((a0.length : Nat) : Int)))))] [] (by kernel_rfl) (by kernel_rfl) ?_
    refine JC.skipT ?_
    refine JC.cond (e := (decide (x3 < ((a0.length : Nat) : Int)))) (by kernel_rfl) (fun h5 => ?_) (fun h5 => ?_)
    · refine JC.skipT ?_
      refine JC.seq ?_
      refine JC.bind (A := fun v ex E R => match v with | Sum.inl v => ex = .normal ∧ E = [(0, .c 1 (.lst 5 (a0.map NodeT.D))), (3, .x (.int .i64 x3))] ∧ R = [] | Sum.inr v => ex = .ret ∧ E = [(2, .x (.bool false))] ∧ R = []) ?_ ?_
      · refine JC.block ?_
        refine JC.seq ?_
        refine JC.region fun b6 => ?_
        refine JS.run 2 (by kernel_rfl) ?_
        refine JS.idxC (c := NodeT.D) (l := a0) (n := 1) (kk := .i64) (z := x3) (by kernel_rfl) (by kernel_rfl) (by kernel_rfl) (by kernel_rfl) (fun a7 h8 => ?_)
        refine JS.run 1 (by kernel_rfl) ?_
        refine JS.alloc (by kernel_rfl) (by kernel_rfl) (by kernel_rfl) (fun id9 => ?_)
        refine JS.storeO (id := id9) (sz := 5) (p := 0) (j := 0) (es := [[.x (.int .i64 (0 : Int)), .x (.int .i64 (0 : Int)), .x (.int .i64 (0 : Int)), .x (.int .i64 (0 : Int)), .x (.int .i64 (0 : Int))]]) (es2 := [[.x (.int .i64 a7.Depth), .x (.int .i64 a7.Rule), .x (.int .i64 a7.Token), .x (.int .i64 a7.from_), .x (.int .i64 a7.to_)]]) (e := [.x (.int .i64 (0 : Int)), .x (.int .i64 (0 : Int)), .x (.int .i64 (0 : Int)), .x (.int .i64 (0 : Int)), .x (.int .i64 (0 : Int))]) (w := .agg [.x (.int .i64 a7.Depth), .x (.int .i64 a7.Rule), .x (.int .i64 a7.Token), .x (.int .i64 a7.from_), .x (.int .i64 a7.to_)]) 0 (by kernel_rfl) (by kernel_rfl) (by kernel_rfl) (by kernel_rfl) (by kernel_rfl) (by kernel_rfl) (by kernel_rfl) ?_
        refine JS.nil ?_
        refine JC.to2 [(0, .c 1 (.lst 5 (a0.map NodeT.D))), (3, .x (.int .i64 x3)), (4, .ptr id9 5 0 0)] [⟨(some id9), 5, [[.x (.int .i64 a7.Depth), .x (.int .i64 a7.Rule), .x (.int .i64 a7.Token), .x (.int .i64 a7.from_), .x (.int .i64 a7.to_)]]⟩] (by kernel_rfl) (by kernel_rfl) ?_
        refine JC.skipT ?_
        refine JC.seq ?_
        refine JC.seq ?_
        refine JC.bind (A := fun v ex E R => ex = .normal ∧ E = [(0, .c 1 (.lst 5 (a0.map NodeT.D))), (3, .x (.int .i64 x3)), (4, .ptr id9 5 0 0), (53, .x (.bool v))] ∧ R = [⟨(some id9), 5, [[.x (.int .i64 a7.Depth), .x (.int .i64 a7.Rule), .x (.int .i64 a7.Token), .x (.int .i64 a7.from_), .x (.int .i64 a7.to_)]]⟩]) ?_ ?_
        · refine JC.region fun b11 => ?_
          refine JS.run 3 (by kernel_rfl) ?_
          refine JS.split (e := (x3 == (0 : Int))) 21 (by kernel_rfl) (fun h12 => ?_) (fun h12 => ?_)
          · refine JS.run 1 (by kernel_rfl) ?_
            refine JS.loadO (id := id9) (sz := 5) (p := 0) (j := 0) (es := [[.x (.int .i64 a7.Depth), .x (.int .i64 a7.Rule), .x (.int .i64 a7.Token), .x (.int .i64 a7.from_), .x (.int .i64 a7.to_)]]) (e := [.x (.int .i64 a7.Depth), .x (.int .i64 a7.Rule), .x (.int .i64 a7.Token), .x (.int .i64 a7.from_), .x (.int .i64 a7.to_)]) 0 (by kernel_rfl) (by kernel_rfl) (by kernel_rfl) (by kernel_rfl) (by kernel_rfl) (by kernel_rfl) ?_
            refine JS.run 3 (by kernel_rfl) ?_
            refine JS.split (e := (a7.Depth != (0 : Int))) 26 (by kernel_rfl) (fun h13 => ?_) (fun h13 => ?_)
            · refine JS.run 27 (by kernel_rfl) ?_
              refine JS.nil ?_
              refine JC.to2 [(0, .c 1 (.lst 5 (a0.map NodeT.D))), (3, .x (.int .i64 x3)), (4, .ptr id9 5 0 0), (53, .x (.bool true))] [⟨(some id9), 5, [[.x (.int .i64 a7.Depth), .x (.int .i64 a7.Rule), .x (.int .i64 a7.Token), .x (.int .i64 a7.from_), .x (.int .i64 a7.to_)]]⟩] (by kernel_rfl) (by kernel_rfl) ?_
              refine JC.to2 [(0, .c 1 (.lst 5 (a0.map NodeT.D))), (3, .x (.int .i64 x3)), (4, .ptr id9 5 0 0), (53, .x (.bool true))] [⟨(some id9), 5, [[.x (.int .i64 a7.Depth), .x (.int .i64 a7.Rule), .x (.int .i64 a7.Token), .x (.int .i64 a7.from_), .x (.int .i64 a7.to_)]]⟩] (by kernel_rfl) (by kernel_rfl) ?_
              exact JC.got (ex := .normal) rfl ⟨rfl, rfl, rfl⟩
            · refine JS.run 3 (by kernel_rfl) ?_
              refine JS.split (e := (decide (x3 > (0 : Int)))) 29 (by kernel_rfl) (fun h14 => ?_) (fun h14 => ?_)
              · refine JS.run 1 (by kernel_rfl) ?_
                refine JS.loadO (id := id9) (sz := 5) (p := 0) (j := 0) (es := [[.x (.int .i64 a7.Depth), .x (.int .i64 a7.Rule), .x (.int .i64 a7.Token), .x (.int .i64 a7.from_), .x (.int .i64 a7.to_)]]) (e := [.x (.int .i64 a7.Depth), .x (.int .i64 a7.Rule), .x (.int .i64 a7.Token), .x (.int .i64 a7.from_), .x (.int .i64 a7.to_)]) 0 (by kernel_rfl) (by kernel_rfl) (by kernel_rfl) (by kernel_rfl) (by kernel_rfl) (by kernel_rfl) ?_
                refine JS.run 2 (by kernel_rfl) ?_
                refine JS.split (e := (decide (a7.Depth < (1 : Int)))) 33 (by kernel_rfl) (fun h15 => ?_) (fun h15 => ?_)
                · refine JS.run 20 (by kernel_rfl) ?_
                  refine JS.nil ?_
                  refine JC.to2 [(0, .c 1 (.lst 5 (a0.map NodeT.D))), (3, .x (.int .i64 x3)), (4, .ptr id9 5 0 0), (53, .x (.bool true))] [⟨(some id9), 5, [[.x (.int .i64 a7.Depth), .x (.int .i64 a7.Rule), .x (.int .i64 a7.Token), .x (.int .i64 a7.from_), .x (.int .i64 a7.to_)]]⟩] (by kernel_rfl) (by kernel_rfl) ?_
                  refine JC.to2 [(0, .c 1 (.lst 5 (a0.map NodeT.D))), (3, .x (.int .i64 x3)), (4, .ptr id9 5 0 0), (53, .x (.bool true))] [⟨(some id9), 5, [[.x (.int .i64 a7.Depth), .x (.int .i64 a7.Rule), .x (.int .i64 a7.Token), .x (.int .i64 a7.from_), .x (.int .i64 a7.to_)]]⟩] (by kernel_rfl) (by kernel_rfl) ?_
                  exact JC.got (ex := .normal) rfl ⟨rfl, rfl, rfl⟩
                · refine JS.run 1 (by kernel_rfl) ?_
                  refine JS.loadO (id := id9) (sz := 5) (p := 0) (j := 0) (es := [[.x (.int .i64 a7.Depth), .x (.int .i64 a7.Rule), .x (.int .i64 a7.Token), .x (.int .i64 a7.from_), .x (.int .i64 a7.to_)]]) (e := [.x (.int .i64 a7.Depth), .x (.int .i64 a7.Rule), .x (.int .i64 a7.Token), .x (.int .i64 a7.from_), .x (.int .i64 a7.to_)]) 0 (by kernel_rfl) (by kernel_rfl) (by kernel_rfl) (by kernel_rfl) (by kernel_rfl) (by kernel_rfl) ?_
                  refine JS.run 3 (by kernel_rfl) ?_
                  refine JS.idxC (c := NodeT.D) (l := a0) (n := 1) (kk := .i64) (z := (IntKind.i64.wrap (x3 - (1 : Int)))) (by kernel_rfl) (by kernel_rfl) (by kernel_rfl) (by kernel_rfl) (fun a16 h17 => ?_)
                  refine JS.run 8 (by kernel_rfl) ?_
                  refine JS.split (e := (decide (a7.Depth > (IntKind.i64.wrap (a16.Depth + (1 : Int)))))) 47 (by kernel_rfl) (fun h18 => ?_) (fun h18 => ?_)
                  · refine JS.run 6 (by kernel_rfl) ?_
                    refine JS.nil ?_
                    refine JC.to2 [(0, .c 1 (.lst 5 (a0.map NodeT.D))), (3, .x (.int .i64 x3)), (4, .ptr id9 5 0 0), (53, .x (.bool true))] [⟨(some id9), 5, [[.x (.int .i64 a7.Depth), .x (.int .i64 a7.Rule), .x (.int .i64 a7.Token), .x (.int .i64 a7.from_), .x (.int .i64 a7.to_)]]⟩] (by kernel_rfl) (by kernel_rfl) ?_
                    refine JC.to2 [(0, .c 1 (.lst 5 (a0.map NodeT.D))), (3, .x (.int .i64 x3)), (4, .ptr id9 5 0 0), (53, .x (.bool true))] [⟨(some id9), 5, [[.x (.int .i64 a7.Depth), .x (.int .i64 a7.Rule), .x (.int .i64 a7.Token), .x (.int .i64 a7.from_), .x (.int .i64 a7.to_)]]⟩] (by kernel_rfl) (by kernel_rfl) ?_
                    exact JC.got (ex := .normal) rfl ⟨rfl, rfl, rfl⟩
                  · refine JS.run 1 (by kernel_rfl) ?_
                    refine JS.loadO (id := id9) (sz := 5) (p := 0) (j := 3) (es := [[.x (.int .i64 a7.Depth), .x (.int .i64 a7.Rule), .x (.int .i64 a7.Token), .x (.int .i64 a7.from_), .x (.int .i64 a7.to_)]]) (e := [.x (.int .i64 a7.Depth), .x (.int .i64 a7.Rule), .x (.int .i64 a7.Token), .x (.int .i64 a7.from_), .x (.int .i64 a7.to_)]) 0 (by kernel_rfl) (by kernel_rfl) (by kernel_rfl) (by kernel_rfl) (by kernel_rfl) (by kernel_rfl) ?_
                    refine JS.run 1 (by kernel_rfl) ?_
                    refine JS.loadO (id := id9) (sz := 5) (p := 0) (j := 4) (es := [[.x (.int .i64 a7.Depth), .x (.int .i64 a7.Rule), .x (.int .i64 a7.Token), .x (.int .i64 a7.from_), .x (.int .i64 a7.to_)]]) (e := [.x (.int .i64 a7.Depth), .x (.int .i64 a7.Rule), .x (.int .i64 a7.Token), .x (.int .i64 a7.from_), .x (.int .i64 a7.to_)]) 0 (by kernel_rfl) (by kernel_rfl) (by kernel_rfl) (by kernel_rfl) (by kernel_rfl) (by kernel_rfl) ?_
                    refine JS.run 2 (by kernel_rfl) ?_
                    refine JS.nil ?_
                    refine JC.to2 [(0, .c 1 (.lst 5 (a0.map NodeT.D))), (3, .x (.int .i64 x3)), (4, .ptr id9 5 0 0), (53, .x (.bool (decide (a7.from_ > a7.to_))))] [⟨(some id9), 5, [[.x (.int .i64 a7.Depth), .x (.int .i64 a7.Rule), .x (.int .i64 a7.Token), .x (.int .i64 a7.from_), .x (.int .i64 a7.to_)]]⟩] (by kernel_rfl) (by kernel_rfl) ?_
                    refine JC.to2 [(0, .c 1 (.lst 5 (a0.map NodeT.D))), (3, .x (.int .i64 x3)), (4, .ptr id9 5 0 0), (53, .x (.bool (decide (a7.from_ > a7.to_))))] [⟨(some id9), 5, [[.x (.int .i64 a7.Depth), .x (.int .i64 a7.Rule), .x (.int .i64 a7.Token), .x (.int .i64 a7.from_), .x (.int .i64 a7.to_)]]⟩] (by kernel_rfl) (by kernel_rfl) ?_
                    exact JC.got (ex := .normal) rfl ⟨rfl, rfl, rfl⟩
              · refine JS.run 19 (by kernel_rfl) ?_
                refine JS.loadO (id := id9) (sz := 5) (p := 0) (j := 3) (es := [[.x (.int .i64 a7.Depth), .x (.int .i64 a7.Rule), .x (.int .i64 a7.Token), .x (.int .i64 a7.from_), .x (.int .i64 a7.to_)]]) (e := [.x (.int .i64 a7.Depth), .x (.int .i64 a7.Rule), .x (.int .i64 a7.Token), .x (.int .i64 a7.from_), .x (.int .i64 a7.to_)]) 0 (by kernel_rfl) (by kernel_rfl) (by kernel_rfl) (by kernel_rfl) (by kernel_rfl) (by kernel_rfl) ?_
                refine JS.run 1 (by kernel_rfl) ?_
                refine JS.loadO (id := id9) (sz := 5) (p := 0) (j := 4) (es := [[.x (.int .i64 a7.Depth), .x (.int .i64 a7.Rule), .x (.int .i64 a7.Token), .x (.int .i64 a7.from_), .x (.int .i64 a7.to_)]]) (e := [.x (.int .i64 a7.Depth), .x (.int .i64 a7.Rule), .x (.int .i64 a7.Token), .x (.int .i64 a7.from_), .x (.int .i64 a7.to_)]) 0 (by kernel_rfl) (by kernel_rfl) (by kernel_rfl) (by kernel_rfl) (by kernel_rfl) (by kernel_rfl) ?_
                refine JS.run 2 (by kernel_rfl) ?_
                refine JS.nil ?_
                refine JC.to2 [(0, .c 1 (.lst 5 (a0.map NodeT.D))), (3, .x (.int .i64 x3)), (4, .ptr id9 5 0 0), (53, .x (.bool (decide (a7.from_ > a7.to_))))] [⟨(some id9), 5, [[.x (.int .i64 a7.Depth), .x (.int .i64 a7.Rule), .x (.int .i64 a7.Token), .x (.int .i64 a7.from_), .x (.int .i64 a7.to_)]]⟩] (by kernel_rfl) (by kernel_rfl) ?_
                refine JC.to2 [(0, .c 1 (.lst 5 (a0.map NodeT.D))), (3, .x (.int .i64 x3)), (4, .ptr id9 5 0 0), (53, .x (.bool (decide (a7.from_ > a7.to_))))] [⟨(some id9), 5, [[.x (.int .i64 a7.Depth), .x (.int .i64 a7.Rule), .x (.int .i64 a7.Token), .x (.int .i64 a7.from_), .x (.int .i64 a7.to_)]]⟩] (by kernel_rfl) (by kernel_rfl) ?_
                exact JC.got (ex := .normal) rfl ⟨rfl, rfl, rfl⟩
          · refine JS.run 8 (by kernel_rfl) ?_
            refine JS.split (e := (decide (x3 > (0 : Int)))) 29 (by kernel_rfl) (fun h19 => ?_) (fun h19 => ?_)
            · refine JS.run 1 (by kernel_rfl) ?_
              refine JS.loadO (id := id9) (sz := 5) (p := 0) (j := 0) (es := [[.x (.int .i64 a7.Depth), .x (.int .i64 a7.Rule), .x (.int .i64 a7.Token), .x (.int .i64 a7.from_), .x (.int .i64 a7.to_)]]) (e := [.x (.int .i64 a7.Depth), .x (.int .i64 a7.Rule), .x (.int .i64 a7.Token), .x (.int .i64 a7.from_), .x (.int .i64 a7.to_)]) 0 (by kernel_rfl) (by kernel_rfl) (by kernel_rfl) (by kernel_rfl) (by kernel_rfl) (by kernel_rfl) ?_
              refine JS.run 2 (by kernel_rfl) ?_
              refine JS.split (e := (decide (a7.Depth < (1 : Int)))) 33 (by kernel_rfl) (fun h20 => ?_) (fun h20 => ?_)
              · refine JS.run 20 (by kernel_rfl) ?_
                refine JS.nil ?_
                refine JC.to2 [(0, .c 1 (.lst 5 (a0.map NodeT.D))), (3, .x (.int .i64 x3)), (4, .ptr id9 5 0 0), (53, .x (.bool true))] [⟨(some id9), 5, [[.x (.int .i64 a7.Depth), .x (.int .i64 a7.Rule), .x (.int .i64 a7.Token), .x (.int .i64 a7.from_), .x (.int .i64 a7.to_)]]⟩] (by kernel_rfl) (by kernel_rfl) ?_
                refine JC.to2 [(0, .c 1 (.lst 5 (a0.map NodeT.D))), (3, .x (.int .i64 x3)), (4, .ptr id9 5 0 0), (53, .x (.bool true))] [⟨(some id9), 5, [[.x (.int .i64 a7.Depth), .x (.int .i64 a7.Rule), .x (.int .i64 a7.Token), .x (.int .i64 a7.from_), .x (.int .i64 a7.to_)]]⟩] (by kernel_rfl) (by kernel_rfl) ?_
                exact JC.got (ex := .normal) rfl ⟨rfl, rfl, rfl⟩
              · refine JS.run 1 (by kernel_rfl) ?_
                refine JS.loadO (id := id9) (sz := 5) (p := 0) (j := 0) (es := [[.x (.int .i64 a7.Depth), .x (.int .i64 a7.Rule), .x (.int .i64 a7.Token), .x (.int .i64 a7.from_), .x (.int .i64 a7.to_)]]) (e := [.x (.int .i64 a7.Depth), .x (.int .i64 a7.Rule), .x (.int .i64 a7.Token), .x (.int .i64 a7.from_), .x (.int .i64 a7.to_)]) 0 (by kernel_rfl) (by kernel_rfl) (by kernel_rfl) (by kernel_rfl) (by kernel_rfl) (by kernel_rfl) ?_
                refine JS.run 3 (by kernel_rfl) ?_
                refine JS.idxC (c := NodeT.D) (l := a0) (n := 1) (kk := .i64) (z := (IntKind.i64.wrap (x3 - (1 : Int)))) (by kernel_rfl) (by kernel_rfl) (by kernel_rfl) (by kernel_rfl) (fun a21 h22 => ?_)
                refine JS.run 8 (by kernel_rfl) ?_
                refine JS.split (e := (decide (a7.Depth > (IntKind.i64.wrap (a21.Depth + (1 : Int)))))) 47 (by kernel_rfl) (fun h23 => ?_) (fun h23 => ?_)
                · refine JS.run 6 (by kernel_rfl) ?_
                  refine JS.nil ?_
                  refine JC.to2 [(0, .c 1 (.lst 5 (a0.map NodeT.D))), (3, .x (.int .i64 x3)), (4, .ptr id9 5 0 0), (53, .x (.bool true))] [⟨(some id9), 5, [[.x (.int .i64 a7.Depth), .x (.int .i64 a7.Rule), .x (.int .i64 a7.Token), .x (.int .i64 a7.from_), .x (.int .i64 a7.to_)]]⟩] (by kernel_rfl) (by kernel_rfl) ?_
                  refine JC.to2 [(0, .c 1 (.lst 5 (a0.map NodeT.D))), (3, .x (.int .i64 x3)), (4, .ptr id9 5 0 0), (53, .x (.bool true))] [⟨(some id9), 5, [[.x (.int .i64 a7.Depth), .x (.int .i64 a7.Rule), .x (.int .i64 a7.Token), .x (.int .i64 a7.from_), .x (.int .i64 a7.to_)]]⟩] (by kernel_rfl) (by kernel_rfl) ?_
                  exact JC.got (ex := .normal) rfl ⟨rfl, rfl, rfl⟩
                · refine JS.run 1 (by kernel_rfl) ?_
                  refine JS.loadO (id := id9) (sz := 5) (p := 0) (j := 3) (es := [[.x (.int .i64 a7.Depth), .x (.int .i64 a7.Rule), .x (.int .i64 a7.Token), .x (.int .i64 a7.from_), .x (.int .i64 a7.to_)]]) (e := [.x (.int .i64 a7.Depth), .x (.int .i64 a7.Rule), .x (.int .i64 a7.Token), .x (.int .i64 a7.from_), .x (.int .i64 a7.to_)]) 0 (by kernel_rfl) (by kernel_rfl) (by kernel_rfl) (by kernel_rfl) (by kernel_rfl) (by kernel_rfl) ?_
                  refine JS.run 1 (by kernel_rfl) ?_
                  refine JS.loadO (id := id9) (sz := 5) (p := 0) (j := 4) (es := [[.x (.int .i64 a7.Depth), .x (.int .i64 a7.Rule), .x (.int .i64 a7.Token), .x (.int .i64 a7.from_), .x (.int .i64 a7.to_)]]) (e := [.x (.int .i64 a7.Depth), .x (.int .i64 a7.Rule), .x (.int .i64 a7.Token), .x (.int .i64 a7.from_), .x (.int .i64 a7.to_)]) 0 (by kernel_rfl) (by kernel_rfl) (by kernel_rfl) (by kernel_rfl) (by kernel_rfl) (by kernel_rfl) ?_
                  refine JS.run 2 (by kernel_rfl) ?_
                  refine JS.nil ?_
                  refine JC.to2 [(0, .c 1 (.lst 5 (a0.map NodeT.D))), (3, .x (.int .i64 x3)), (4, .ptr id9 5 0 0), (53, .x (.bool (decide (a7.from_ > a7.to_))))] [⟨(some id9), 5, [[.x (.int .i64 a7.Depth), .x (.int .i64 a7.Rule), .x (.int .i64 a7.Token), .x (.int .i64 a7.from_), .x (.int .i64 a7.to_)]]⟩] (by kernel_rfl) (by kernel_rfl) ?_
                  refine JC.to2 [(0, .c 1 (.lst 5 (a0.map NodeT.D))), (3, .x (.int .i64 x3)), (4, .ptr id9 5 0 0), (53, .x (.bool (decide (a7.from_ > a7.to_))))] [⟨(some id9), 5, [[.x (.int .i64 a7.Depth), .x (.int .i64 a7.Rule), .x (.int .i64 a7.Token), .x (.int .i64 a7.from_), .x (.int .i64 a7.to_)]]⟩] (by kernel_rfl) (by kernel_rfl) ?_
                  exact JC.got (ex := .normal) rfl ⟨rfl, rfl, rfl⟩
            · refine JS.run 19 (by kernel_rfl) ?_
              refine JS.loadO (id := id9) (sz := 5) (p := 0) (j := 3) (es := [[.x (.int .i64 a7.Depth), .x (.int .i64 a7.Rule), .x (.int .i64 a7.Token), .x (.int .i64 a7.from_), .x (.int .i64 a7.to_)]]) (e := [.x (.int .i64 a7.Depth), .x (.int .i64 a7.Rule), .x (.int .i64 a7.Token), .x (.int .i64 a7.from_), .x (.int .i64 a7.to_)]) 0 (by kernel_rfl) (by kernel_rfl) (by kernel_rfl) (by kernel_rfl) (by kernel_rfl) (by kernel_rfl) ?_
              refine JS.run 1 (by kernel_rfl) ?_
              refine JS.loadO (id := id9) (sz := 5) (p := 0) (j := 4) (es := [[.x (.int .i64 a7.Depth), .x (.int .i64 a7.Rule), .x (.int .i64 a7.Token), .x (.int .i64 a7.from_), .x (.int .i64 a7.to_)]]) (e := [.x (.int .i64 a7.Depth), .x (.int .i64 a7.Rule), .x (.int .i64 a7.Token), .x (.int .i64 a7.from_), .x (.int .i64 a7.to_)]) 0 (by kernel_rfl) (by kernel_rfl) (by kernel_rfl) (by kernel_rfl) (by kernel_rfl) (by kernel_rfl) ?_
              refine JS.run 2 (by kernel_rfl) ?_
              refine JS.nil ?_
              refine JC.to2 [(0, .c 1 (.lst 5 (a0.map NodeT.D))), (3, .x (.int .i64 x3)), (4, .ptr id9 5 0 0), (53, .x (.bool (decide (a7.from_ > a7.to_))))] [⟨(some id9), 5, [[.x (.int .i64 a7.Depth), .x (.int .i64 a7.Rule), .x (.int .i64 a7.Token), .x (.int .i64 a7.from_), .x (.int .i64 a7.to_)]]⟩] (by kernel_rfl) (by kernel_rfl) ?_
              refine JC.to2 [(0, .c 1 (.lst 5 (a0.map NodeT.D))), (3, .x (.int .i64 x3)), (4, .ptr id9 5 0 0), (53, .x (.bool (decide (a7.from_ > a7.to_))))] [⟨(some id9), 5, [[.x (.int .i64 a7.Depth), .x (.int .i64 a7.Rule), .x (.int .i64 a7.Token), .x (.int .i64 a7.from_), .x (.int .i64 a7.to_)]]⟩] (by kernel_rfl) (by kernel_rfl) ?_
              exact JC.got (ex := .normal) rfl ⟨rfl, rfl, rfl⟩
        · rintro y10 ex E' R' hA
          obtain ⟨rfl, rfl, rfl⟩ := hA
          refine JC.to2 [(0, .c 1 (.lst 5 (a0.map NodeT.D))), (3, .x (.int .i64 x3)), (4, .ptr id9 5 0 0), (53, .x (.bool y10))] [⟨(some id9), 5, [[.x (.int .i64 a7.Depth), .x (.int .i64 a7.Rule), .x (.int .i64 a7.Token), .x (.int .i64 a7.from_), .x (.int .i64 a7.to_)]]⟩] (by kernel_rfl) (by kernel_rfl) ?_
          refine JC.skipT ?_
          refine JC.cond (e := y10) (by kernel_rfl) (fun h24 => ?_) (fun h24 => ?_)
          · refine JC.seq ?_
            refine JC.region fun b25 => ?_
            refine JS.run 1 (by kernel_rfl) ?_
            refine JS.nil ?_
            refine JC.drop 0 ?_
            refine JC.to2 [(2, .x (.bool false))] [] (by kernel_rfl) (by kernel_rfl) ?_
            refine JC.skipT ?_
            refine JC.retT ?_
            refine JC.retB ?_
            refine JC.to2 [(2, .x (.bool false))] [] (by kernel_rfl) (by kernel_rfl) ?_
            exact JC.got (ex := .ret) rfl ⟨rfl, rfl, rfl⟩
          · refine JC.skipT ?_
            refine JC.seq ?_
            refine JC.bind (A := fun v ex E R => ex = .normal ∧ E = [(0, .c 1 (.lst 5 (a0.map NodeT.D))), (3, .x (.int .i64 x3)), (4, .ptr id9 5 0 0), (5, .x (.bool v))] ∧ R = [⟨(some id9), 5, [[.x (.int .i64 a7.Depth), .x (.int .i64 a7.Rule), .x (.int .i64 a7.Token), .x (.int .i64 a7.from_), .x (.int .i64 a7.to_)]]⟩]) ?_ ?_
            · refine JC.region fun b27 => ?_
              refine JS.run 1 (by kernel_rfl) ?_
              refine JS.loadO (id := id9) (sz := 5) (p := 0) (j := 2) (es := [[.x (.int .i64 a7.Depth), .x (.int .i64 a7.Rule), .x (.int .i64 a7.Token), .x (.int .i64 a7.from_), .x (.int .i64 a7.to_)]]) (e := [.x (.int .i64 a7.Depth), .x (.int .i64 a7.Rule), .x (.int .i64 a7.Token), .x (.int .i64 a7.from_), .x (.int .i64 a7.to_)]) 0 (by kernel_rfl) (by kernel_rfl) (by kernel_rfl) (by kernel_rfl) (by kernel_rfl) (by kernel_rfl) ?_
              refine JS.run 2 (by kernel_rfl) ?_
              refine JS.split (e := (decide (a7.Token ≥ (0 : Int)))) 57 (by kernel_rfl) (fun h28 => ?_) (fun h28 => ?_)
              · refine JS.run 1 (by kernel_rfl) ?_
                refine JS.loadO (id := id9) (sz := 5) (p := 0) (j := 1) (es := [[.x (.int .i64 a7.Depth), .x (.int .i64 a7.Rule), .x (.int .i64 a7.Token), .x (.int .i64 a7.from_), .x (.int .i64 a7.to_)]]) (e := [.x (.int .i64 a7.Depth), .x (.int .i64 a7.Rule), .x (.int .i64 a7.Token), .x (.int .i64 a7.from_), .x (.int .i64 a7.to_)]) 0 (by kernel_rfl) (by kernel_rfl) (by kernel_rfl) (by kernel_rfl) (by kernel_rfl) (by kernel_rfl) ?_
                refine JS.run 3 (by kernel_rfl) ?_
                refine JS.nil ?_
                refine JC.to2 [(0, .c 1 (.lst 5 (a0.map NodeT.D))), (3, .x (.int .i64 x3)), (4, .ptr id9 5 0 0), (5, .x (.bool (a7.Rule == (-1 : Int))))] [⟨(some id9), 5, [[.x (.int .i64 a7.Depth), .x (.int .i64 a7.Rule), .x (.int .i64 a7.Token), .x (.int .i64 a7.from_), .x (.int .i64 a7.to_)]]⟩] (by kernel_rfl) (by kernel_rfl) ?_
                refine JC.to2 [(0, .c 1 (.lst 5 (a0.map NodeT.D))), (3, .x (.int .i64 x3)), (4, .ptr id9 5 0 0), (5, .x (.bool (a7.Rule == (-1 : Int))))] [⟨(some id9), 5, [[.x (.int .i64 a7.Depth), .x (.int .i64 a7.Rule), .x (.int .i64 a7.Token), .x (.int .i64 a7.from_), .x (.int .i64 a7.to_)]]⟩] (by kernel_rfl) (by kernel_rfl) ?_
                exact JC.got (ex := .normal) rfl ⟨rfl, rfl, rfl⟩
              · refine JS.run 5 (by kernel_rfl) ?_
                refine JS.nil ?_
                refine JC.to2 [(0, .c 1 (.lst 5 (a0.map NodeT.D))), (3, .x (.int .i64 x3)), (4, .ptr id9 5 0 0), (5, .x (.bool false))] [⟨(some id9), 5, [[.x (.int .i64 a7.Depth), .x (.int .i64 a7.Rule), .x (.int .i64 a7.Token), .x (.int .i64 a7.from_), .x (.int .i64 a7.to_)]]⟩] (by kernel_rfl) (by kernel_rfl) ?_
                refine JC.to2 [(0, .c 1 (.lst 5 (a0.map NodeT.D))), (3, .x (.int .i64 x3)), (4, .ptr id9 5 0 0), (5, .x (.bool false))] [⟨(some id9), 5, [[.x (.int .i64 a7.Depth), .x (.int .i64 a7.Rule), .x (.int .i64 a7.Token), .x (.int .i64 a7.from_), .x (.int .i64 a7.to_)]]⟩] (by kernel_rfl) (by kernel_rfl) ?_
                exact JC.got (ex := .normal) rfl ⟨rfl, rfl, rfl⟩
            · rintro y26 ex E' R' hA
              obtain ⟨rfl, rfl, rfl⟩ := hA
              refine JC.to2 [(0, .c 1 (.lst 5 (a0.map NodeT.D))), (3, .x (.int .i64 x3)), (4, .ptr id9 5 0 0), (5, .x (.bool y26))] [⟨(some id9), 5, [[.x (.int .i64 a7.Depth), .x (.int .i64 a7.Rule), .x (.int .i64 a7.Token), .x (.int .i64 a7.from_), .x (.int .i64 a7.to_)]]⟩] (by kernel_rfl) (by kernel_rfl) ?_
              refine JC.skipT ?_
              refine JC.seq ?_
              refine JC.seq ?_
              refine JC.bind (A := fun v ex E R => ex = .normal ∧ E = [(0, .c 1 (.lst 5 (a0.map NodeT.D))), (3, .x (.int .i64 x3)), (4, .ptr id9 5 0 0), (74, .x (.bool v))] ∧ R = [⟨(some id9), 5, [[.x (.int .i64 a7.Depth), .x (.int .i64 a7.Rule), .x (.int .i64 a7.Token), .x (.int .i64 a7.from_), .x (.int .i64 a7.to_)]]⟩]) ?_ ?_
              · refine JC.region fun b30 => ?_
                refine JS.run 3 (by kernel_rfl) ?_
                refine JS.split (e := (!y26)) 64 (by kernel_rfl) (fun h31 => ?_) (fun h31 => ?_)
                · refine JS.run 1 (by kernel_rfl) ?_
                  refine JS.loadO (id := id9) (sz := 5) (p := 0) (j := 1) (es := [[.x (.int .i64 a7.Depth), .x (.int .i64 a7.Rule), .x (.int .i64 a7.Token), .x (.int .i64 a7.from_), .x (.int .i64 a7.to_)]]) (e := [.x (.int .i64 a7.Depth), .x (.int .i64 a7.Rule), .x (.int .i64 a7.Token), .x (.int .i64 a7.from_), .x (.int .i64 a7.to_)]) 0 (by kernel_rfl) (by kernel_rfl) (by kernel_rfl) (by kernel_rfl) (by kernel_rfl) (by kernel_rfl) ?_
                  refine JS.run 2 (by kernel_rfl) ?_
                  refine JS.split (e := (decide (a7.Rule ≥ (0 : Int)))) 68 (by kernel_rfl) (fun h32 => ?_) (fun h32 => ?_)
                  · refine JS.run 1 (by kernel_rfl) ?_
                    refine JS.loadO (id := id9) (sz := 5) (p := 0) (j := 2) (es := [[.x (.int .i64 a7.Depth), .x (.int .i64 a7.Rule), .x (.int .i64 a7.Token), .x (.int .i64 a7.from_), .x (.int .i64 a7.to_)]]) (e := [.x (.int .i64 a7.Depth), .x (.int .i64 a7.Rule), .x (.int .i64 a7.Token), .x (.int .i64 a7.from_), .x (.int .i64 a7.to_)]) 0 (by kernel_rfl) (by kernel_rfl) (by kernel_rfl) (by kernel_rfl) (by kernel_rfl) (by kernel_rfl) ?_
                    refine JS.run 4 (by kernel_rfl) ?_
                    refine JS.nil ?_
                    refine JC.to2 [(0, .c 1 (.lst 5 (a0.map NodeT.D))), (3, .x (.int .i64 x3)), (4, .ptr id9 5 0 0), (74, .x (.bool (!(a7.Token == (-1 : Int)))))] [⟨(some id9), 5, [[.x (.int .i64 a7.Depth), .x (.int .i64 a7.Rule), .x (.int .i64 a7.Token), .x (.int .i64 a7.from_), .x (.int .i64 a7.to_)]]⟩] (by kernel_rfl) (by kernel_rfl) ?_
                    refine JC.to2 [(0, .c 1 (.lst 5 (a0.map NodeT.D))), (3, .x (.int .i64 x3)), (4, .ptr id9 5 0 0), (74, .x (.bool (!(a7.Token == (-1 : Int)))))] [⟨(some id9), 5, [[.x (.int .i64 a7.Depth), .x (.int .i64 a7.Rule), .x (.int .i64 a7.Token), .x (.int .i64 a7.from_), .x (.int .i64 a7.to_)]]⟩] (by kernel_rfl) (by kernel_rfl) ?_
                    exact JC.got (ex := .normal) rfl ⟨rfl, rfl, rfl⟩
                  · refine JS.run 6 (by kernel_rfl) ?_
                    refine JS.nil ?_
                    refine JC.to2 [(0, .c 1 (.lst 5 (a0.map NodeT.D))), (3, .x (.int .i64 x3)), (4, .ptr id9 5 0 0), (74, .x (.bool true))] [⟨(some id9), 5, [[.x (.int .i64 a7.Depth), .x (.int .i64 a7.Rule), .x (.int .i64 a7.Token), .x (.int .i64 a7.from_), .x (.int .i64 a7.to_)]]⟩] (by kernel_rfl) (by kernel_rfl) ?_
                    refine JC.to2 [(0, .c 1 (.lst 5 (a0.map NodeT.D))), (3, .x (.int .i64 x3)), (4, .ptr id9 5 0 0), (74, .x (.bool true))] [⟨(some id9), 5, [[.x (.int .i64 a7.Depth), .x (.int .i64 a7.Rule), .x (.int .i64 a7.Token), .x (.int .i64 a7.from_), .x (.int .i64 a7.to_)]]⟩] (by kernel_rfl) (by kernel_rfl) ?_
                    exact JC.got (ex := .normal) rfl ⟨rfl, rfl, rfl⟩
                · refine JS.run 10 (by kernel_rfl) ?_
                  refine JS.nil ?_
                  refine JC.to2 [(0, .c 1 (.lst 5 (a0.map NodeT.D))), (3, .x (.int .i64 x3)), (4, .ptr id9 5 0 0), (74, .x (.bool false))] [⟨(some id9), 5, [[.x (.int .i64 a7.Depth), .x (.int .i64 a7.Rule), .x (.int .i64 a7.Token), .x (.int .i64 a7.from_), .x (.int .i64 a7.to_)]]⟩] (by kernel_rfl) (by kernel_rfl) ?_
                  refine JC.to2 [(0, .c 1 (.lst 5 (a0.map NodeT.D))), (3, .x (.int .i64 x3)), (4, .ptr id9 5 0 0), (74, .x (.bool false))] [⟨(some id9), 5, [[.x (.int .i64 a7.Depth), .x (.int .i64 a7.Rule), .x (.int .i64 a7.Token), .x (.int .i64 a7.from_), .x (.int .i64 a7.to_)]]⟩] (by kernel_rfl) (by kernel_rfl) ?_
                  exact JC.got (ex := .normal) rfl ⟨rfl, rfl, rfl⟩
              · rintro y29 ex E' R' hA
                obtain ⟨rfl, rfl, rfl⟩ := hA
                refine JC.to2 [(0, .c 1 (.lst 5 (a0.map NodeT.D))), (3, .x (.int .i64 x3)), (4, .ptr id9 5 0 0), (74, .x (.bool y29))] [⟨(some id9), 5, [[.x (.int .i64 a7.Depth), .x (.int .i64 a7.Rule), .x (.int .i64 a7.Token), .x (.int .i64 a7.from_), .x (.int .i64 a7.to_)]]⟩] (by kernel_rfl) (by kernel_rfl) ?_
                refine JC.skipT ?_
                refine JC.cond (e := y29) (by kernel_rfl) (fun h33 => ?_) (fun h33 => ?_)
                · refine JC.seq ?_
                  refine JC.region fun b34 => ?_
                  refine JS.run 1 (by kernel_rfl) ?_
                  refine JS.nil ?_
                  refine JC.drop 0 ?_
                  refine JC.to2 [(2, .x (.bool false))] [] (by kernel_rfl) (by kernel_rfl) ?_
                  refine JC.skipT ?_
                  refine JC.retT ?_
                  refine JC.retB ?_
                  refine JC.to2 [(2, .x (.bool false))] [] (by kernel_rfl) (by kernel_rfl) ?_
                  exact JC.got (ex := .ret) rfl ⟨rfl, rfl, rfl⟩
                · refine JC.skipT ?_
                  refine JC.seq ?_
                  refine JC.seq ?_
                  refine JC.region fun b35 => ?_
                  refine JS.run 2 (by kernel_rfl) ?_
                  refine JS.nil ?_
                  refine JC.to2 [(0, .c 1 (.lst 5 (a0.map NodeT.D))), (3, .x (.int .i64 x3)), (4, .ptr id9 5 0 0), (76, .x (.bool (x3 == (0 : Int))))] [⟨(some id9), 5, [[.x (.int .i64 a7.Depth), .x (.int .i64 a7.Rule), .x (.int .i64 a7.Token), .x (.int .i64 a7.from_), .x (.int .i64 a7.to_)]]⟩] (by kernel_rfl) (by kernel_rfl) ?_
                  refine JC.skipT ?_
                  refine JC.cond (e := (x3 == (0 : Int))) (by kernel_rfl) (fun h36 => ?_) (fun h36 => ?_)
                  · refine JC.exitT ?_
                    refine JC.exitB ?_
                    refine JC.drop 0 ?_
                    refine JC.to2 [(0, .c 1 (.lst 5 (a0.map NodeT.D))), (3, .x (.int .i64 x3))] [] (by kernel_rfl) (by kernel_rfl) ?_
                    exact JC.got (ex := .normal) rfl ⟨rfl, rfl, rfl⟩
                  · refine JC.skipT ?_
                    refine JC.seq ?_
                    refine JC.region fun b37 => ?_
                    refine JS.run 3 (by kernel_rfl) ?_
                    refine JS.bind fun r38 h39 => ?_
                    refine JS.callS [] (eyotref18_parent_ok k a0 x3 r38 h39) ⟨rfl, argC (n := 1) (by kernel_rfl) (by kernel_rfl) (by kernel_rfl), rfl, argX (d := (.int .i64 x3)) (by kernel_rfl) (by kernel_rfl), trivial⟩ (by kernel_rfl) (by kernel_rfl) (by kernel_rfl) ?_
                    refine JS.idxC (c := NodeT.D) (l := a0) (n := 1) (kk := .i64) (z := r38) (by kernel_rfl) (by kernel_rfl) (by kernel_rfl) (by kernel_rfl) (fun a40 h41 => ?_)
                    refine JS.run 1 (by kernel_rfl) ?_
                    refine JS.alloc (by kernel_rfl) (by kernel_rfl) (by kernel_rfl) (fun id42 => ?_)
                    refine JS.storeO (id := id42) (sz := 5) (p := 0) (j := 0) (es := [[.x (.int .i64 (0 : Int)), .x (.int .i64 (0 : Int)), .x (.int .i64 (0 : Int)), .x (.int .i64 (0 : Int)), .x (.int .i64 (0 : Int))]]) (es2 := [[.x (.int .i64 a40.Depth), .x (.int .i64 a40.Rule), .x (.int .i64 a40.Token), .x (.int .i64 a40.from_), .x (.int .i64 a40.to_)]]) (e := [.x (.int .i64 (0 : Int)), .x (.int .i64 (0 : Int)), .x (.int .i64 (0 : Int)), .x (.int .i64 (0 : Int)), .x (.int .i64 (0 : Int))]) (w := .agg [.x (.int .i64 a40.Depth), .x (.int .i64 a40.Rule), .x (.int .i64 a40.Token), .x (.int .i64 a40.from_), .x (.int .i64 a40.to_)]) 1 (by kernel_rfl) (by kernel_rfl) (by kernel_rfl) (by kernel_rfl) (by kernel_rfl) (by kernel_rfl) (by kernel_rfl) ?_
                    refine JS.nil ?_
                    refine JC.to2 [(0, .c 1 (.lst 5 (a0.map NodeT.D))), (3, .x (.int .i64 x3)), (4, .ptr id9 5 0 0), (6, .ptr id42 5 0 0)] [⟨(some id9), 5, [[.x (.int .i64 a7.Depth), .x (.int .i64 a7.Rule), .x (.int .i64 a7.Token), .x (.int .i64 a7.from_), .x (.int .i64 a7.to_)]]⟩, ⟨(some id42), 5, [[.x (.int .i64 a40.Depth), .x (.int .i64 a40.Rule), .x (.int .i64 a40.Token), .x (.int .i64 a40.from_), .x (.int .i64 a40.to_)]]⟩] (by kernel_rfl) (by kernel_rfl) ?_
                    refine JC.skipT ?_
                    refine JC.seq ?_
                    refine JC.seq ?_
                    refine JC.bind (A := fun v ex E R => ex = .normal ∧ E = [(0, .c 1 (.lst 5 (a0.map NodeT.D))), (3, .x (.int .i64 x3)), (4, .ptr id9 5 0 0), (99, .x (.bool v))] ∧ R = [⟨(some id9), 5, [[.x (.int .i64 a7.Depth), .x (.int .i64 a7.Rule), .x (.int .i64 a7.Token), .x (.int .i64 a7.from_), .x (.int .i64 a7.to_)]]⟩]) ?_ ?_
                    · refine JC.region fun b44 => ?_
                      refine JS.run 1 (by kernel_rfl) ?_
                      refine JS.loadO (id := id9) (sz := 5) (p := 0) (j := 3) (es := [[.x (.int .i64 a7.Depth), .x (.int .i64 a7.Rule), .x (.int .i64 a7.Token), .x (.int .i64 a7.from_), .x (.int .i64 a7.to_)]]) (e := [.x (.int .i64 a7.Depth), .x (.int .i64 a7.Rule), .x (.int .i64 a7.Token), .x (.int .i64 a7.from_), .x (.int .i64 a7.to_)]) 0 (by kernel_rfl) (by kernel_rfl) (by kernel_rfl) (by kernel_rfl) (by kernel_rfl) (by kernel_rfl) ?_
                      refine JS.run 1 (by kernel_rfl) ?_
                      refine JS.loadO (id := id42) (sz := 5) (p := 0) (j := 3) (es := [[.x (.int .i64 a40.Depth), .x (.int .i64 a40.Rule), .x (.int .i64 a40.Token), .x (.int .i64 a40.from_), .x (.int .i64 a40.to_)]]) (e := [.x (.int .i64 a40.Depth), .x (.int .i64 a40.Rule), .x (.int .i64 a40.Token), .x (.int .i64 a40.from_), .x (.int .i64 a40.to_)]) 1 (by kernel_rfl) (by kernel_rfl) (by kernel_rfl) (by kernel_rfl) (by kernel_rfl) (by kernel_rfl) ?_
                      refine JS.run 2 (by kernel_rfl) ?_
                      refine JS.split (e := (decide (a7.from_ < a40.from_))) 88 (by kernel_rfl) (fun h45 => ?_) (fun h45 => ?_)
                      · refine JS.run 11 (by kernel_rfl) ?_
                        refine JS.nil ?_
                        refine JC.drop 1 ?_
                        refine JC.to2 [(0, .c 1 (.lst 5 (a0.map NodeT.D))), (3, .x (.int .i64 x3)), (4, .ptr id9 5 0 0), (99, .x (.bool true))] [⟨(some id9), 5, [[.x (.int .i64 a7.Depth), .x (.int .i64 a7.Rule), .x (.int .i64 a7.Token), .x (.int .i64 a7.from_), .x (.int .i64 a7.to_)]]⟩] (by kernel_rfl) (by kernel_rfl) ?_
                        refine JC.to2 [(0, .c 1 (.lst 5 (a0.map NodeT.D))), (3, .x (.int .i64 x3)), (4, .ptr id9 5 0 0), (99, .x (.bool true))] [⟨(some id9), 5, [[.x (.int .i64 a7.Depth), .x (.int .i64 a7.Rule), .x (.int .i64 a7.Token), .x (.int .i64 a7.from_), .x (.int .i64 a7.to_)]]⟩] (by kernel_rfl) (by kernel_rfl) ?_
                        exact JC.got (ex := .normal) rfl ⟨rfl, rfl, rfl⟩
                      · refine JS.run 1 (by kernel_rfl) ?_
                        refine JS.loadO (id := id9) (sz := 5) (p := 0) (j := 4) (es := [[.x (.int .i64 a7.Depth), .x (.int .i64 a7.Rule), .x (.int .i64 a7.Token), .x (.int .i64 a7.from_), .x (.int .i64 a7.to_)]]) (e := [.x (.int .i64 a7.Depth), .x (.int .i64 a7.Rule), .x (.int .i64 a7.Token), .x (.int .i64 a7.from_), .x (.int .i64 a7.to_)]) 0 (by kernel_rfl) (by kernel_rfl) (by kernel_rfl) (by kernel_rfl) (by kernel_rfl) (by kernel_rfl) ?_
                        refine JS.run 1 (by kernel_rfl) ?_
                        refine JS.loadO (id := id42) (sz := 5) (p := 0) (j := 4) (es := [[.x (.int .i64 a40.Depth), .x (.int .i64 a40.Rule), .x (.int .i64 a40.Token), .x (.int .i64 a40.from_), .x (.int .i64 a40.to_)]]) (e := [.x (.int .i64 a40.Depth), .x (.int .i64 a40.Rule), .x (.int .i64 a40.Token), .x (.int .i64 a40.from_), .x (.int .i64 a40.to_)]) 1 (by kernel_rfl) (by kernel_rfl) (by kernel_rfl) (by kernel_rfl) (by kernel_rfl) (by kernel_rfl) ?_
                        refine JS.run 3 (by kernel_rfl) ?_
                        refine JS.split (e := (decide (a7.to_ > a40.to_))) 95 (by kernel_rfl) (fun h46 => ?_) (fun h46 => ?_)
                        · refine JS.run 4 (by kernel_rfl) ?_
                          refine JS.nil ?_
                          refine JC.drop 1 ?_
                          refine JC.to2 [(0, .c 1 (.lst 5 (a0.map NodeT.D))), (3, .x (.int .i64 x3)), (4, .ptr id9 5 0 0), (99, .x (.bool true))] [⟨(some id9), 5, [[.x (.int .i64 a7.Depth), .x (.int .i64 a7.Rule), .x (.int .i64 a7.Token), .x (.int .i64 a7.from_), .x (.int .i64 a7.to_)]]⟩] (by kernel_rfl) (by kernel_rfl) ?_
                          refine JC.to2 [(0, .c 1 (.lst 5 (a0.map NodeT.D))), (3, .x (.int .i64 x3)), (4, .ptr id9 5 0 0), (99, .x (.bool true))] [⟨(some id9), 5, [[.x (.int .i64 a7.Depth), .x (.int .i64 a7.Rule), .x (.int .i64 a7.Token), .x (.int .i64 a7.from_), .x (.int .i64 a7.to_)]]⟩] (by kernel_rfl) (by kernel_rfl) ?_
                          exact JC.got (ex := .normal) rfl ⟨rfl, rfl, rfl⟩
                        · refine JS.run 1 (by kernel_rfl) ?_
                          refine JS.loadO (id := id42) (sz := 5) (p := 0) (j := 2) (es := [[.x (.int .i64 a40.Depth), .x (.int .i64 a40.Rule), .x (.int .i64 a40.Token), .x (.int .i64 a40.from_), .x (.int .i64 a40.to_)]]) (e := [.x (.int .i64 a40.Depth), .x (.int .i64 a40.Rule), .x (.int .i64 a40.Token), .x (.int .i64 a40.from_), .x (.int .i64 a40.to_)]) 1 (by kernel_rfl) (by kernel_rfl) (by kernel_rfl) (by kernel_rfl) (by kernel_rfl) (by kernel_rfl) ?_
                          refine JS.run 2 (by kernel_rfl) ?_
                          refine JS.nil ?_
                          refine JC.drop 1 ?_
                          refine JC.to2 [(0, .c 1 (.lst 5 (a0.map NodeT.D))), (3, .x (.int .i64 x3)), (4, .ptr id9 5 0 0), (99, .x (.bool (decide (a40.Token ≥ (0 : Int)))))] [⟨(some id9), 5, [[.x (.int .i64 a7.Depth), .x (.int .i64 a7.Rule), .x (.int .i64 a7.Token), .x (.int .i64 a7.from_), .x (.int .i64 a7.to_)]]⟩] (by kernel_rfl) (by kernel_rfl) ?_
                          refine JC.to2 [(0, .c 1 (.lst 5 (a0.map NodeT.D))), (3, .x (.int .i64 x3)), (4, .ptr id9 5 0 0), (99, .x (.bool (decide (a40.Token ≥ (0 : Int)))))] [⟨(some id9), 5, [[.x (.int .i64 a7.Depth), .x (.int .i64 a7.Rule), .x (.int .i64 a7.Token), .x (.int .i64 a7.from_), .x (.int .i64 a7.to_)]]⟩] (by kernel_rfl) (by kernel_rfl) ?_
                          exact JC.got (ex := .normal) rfl ⟨rfl, rfl, rfl⟩
                    · rintro y43 ex E' R' hA
                      obtain ⟨rfl, rfl, rfl⟩ := hA
                      refine JC.to2 [(0, .c 1 (.lst 5 (a0.map NodeT.D))), (3, .x (.int .i64 x3)), (4, .ptr id9 5 0 0), (99, .x (.bool y43))] [⟨(some id9), 5, [[.x (.int .i64 a7.Depth), .x (.int .i64 a7.Rule), .x (.int .i64 a7.Token), .x (.int .i64 a7.from_), .x (.int .i64 a7.to_)]]⟩] (by kernel_rfl) (by kernel_rfl) ?_
                      refine JC.skipT ?_
                      refine JC.cond (e := y43) (by kernel_rfl) (fun h47 => ?_) (fun h47 => ?_)
                      · refine JC.seq ?_
                        refine JC.region fun b48 => ?_
                        refine JS.run 1 (by kernel_rfl) ?_
                        refine JS.nil ?_
                        refine JC.drop 0 ?_
                        refine JC.to2 [(2, .x (.bool false))] [] (by kernel_rfl) (by kernel_rfl) ?_
                        refine JC.skipT ?_
                        refine JC.retT ?_
                        refine JC.retB ?_
                        refine JC.to2 [(2, .x (.bool false))] [] (by kernel_rfl) (by kernel_rfl) ?_
                        exact JC.got (ex := .ret) rfl ⟨rfl, rfl, rfl⟩
                      · refine JC.skipT ?_
                        refine JC.seq ?_
                        refine JC.region fun b49 => ?_
                        refine JS.run 3 (by kernel_rfl) ?_
                        refine JS.bind fun r50 h51 => ?_
                        refine JS.callS [] (eyotref18_parent_ok k a0 x3 r50 h51) ⟨rfl, argC (n := 1) (by kernel_rfl) (by kernel_rfl) (by kernel_rfl), rfl, argX (d := (.int .i64 x3)) (by kernel_rfl) (by kernel_rfl), trivial⟩ (by kernel_rfl) (by kernel_rfl) (by kernel_rfl) ?_
                        refine JS.bind fun r52 h53 => ?_
                        refine JS.callK1 [] (eyotref18_Kids_ok k a0 r50 r52 h53) ⟨rfl, argC (n := 1) (by kernel_rfl) (by kernel_rfl) (by kernel_rfl), rfl, argX (d := (.int .i64 r50)) (by kernel_rfl) (by kernel_rfl), trivial⟩ ⟨vl_sc (fun _ => rfl), trivial⟩ (by kernel_rfl) (by kernel_rfl) (by kernel_rfl) (by kernel_rfl) (fun o54 => ?_)
                        refine JS.relen (o := o54) (off := 0) (n := (vl (iD .i64) r52).length) (n' := r52.length) 104 (by kernel_rfl) (vl_len _ _) ?_
                        refine JS.run 1 (by kernel_rfl) ?_
                        refine JS.nil ?_
                        refine JC.to2 [(0, .c 1 (.lst 5 (a0.map NodeT.D))), (3, .x (.int .i64 x3)), (4, .ptr id9 5 0 0), (7, .ref o54 0 r52.length)] [⟨(some id9), 5, [[.x (.int .i64 a7.Depth), .x (.int .i64 a7.Rule), .x (.int .i64 a7.Token), .x (.int .i64 a7.from_), .x (.int .i64 a7.to_)]]⟩, ⟨o54, 1, vl (iD .i64) r52⟩] (by kernel_rfl) (by kernel_rfl) ?_
                        refine JC.skipT ?_
                        refine JC.seq ?_
                        refine JC.region fun b55 => ?_
                        refine JS.run 1 (by kernel_rfl) ?_
                        refine JS.nil ?_
                        refine JC.to2 [(0, .c 1 (.lst 5 (a0.map NodeT.D))), (3, .x (.int .i64 x3)), (4, .ptr id9 5 0 0), (7, .ref o54 0 r52.length), (8, .x (.int .i64 (1 : Int)))] [⟨(some id9), 5, [[.x (.int .i64 a7.Depth), .x (.int .i64 a7.Rule), .x (.int .i64 a7.Token), .x (.int .i64 a7.from_), .x (.int .i64 a7.to_)]]⟩, ⟨o54, 1, vl (iD .i64) r52⟩] (by kernel_rfl) (by kernel_rfl) ?_
                        refine JC.skipT ?_
                        refine JC.block ?_
                        refine JC.to2 [(0, .c 1 (.lst 5 (a0.map NodeT.D))), (3, .x (.int .i64 x3)), (4, .ptr id9 5 0 0), (7, .ref o54 0 r52.length), (8, .x (.int .i64 (1 : Int)))] [⟨(some id9), 5, [[.x (.int .i64 a7.Depth), .x (.int .i64 a7.Rule), .x (.int .i64 a7.Token), .x (.int .i64 a7.from_), .x (.int .i64 a7.to_)]]⟩, ⟨o54, 1, vl (iD .i64) r52⟩] (by kernel_rfl) (by kernel_rfl) ?_
                        refine JC.to2 [(0, .c 1 (.lst 5 (a0.map NodeT.D))), (3, .x (.int .i64 x3)), (4, .ptr id9 5 0 0), (7, .ref o54 0 r52.length), (8, .x (.int .i64 (1 : Int)))] [⟨(some id9), 5, [[.x (.int .i64 a7.Depth), .x (.int .i64 a7.Rule), .x (.int .i64 a7.Token), .x (.int .i64 a7.from_), .x (.int .i64 a7.to_)]]⟩, ⟨o54, 1, vl (iD .i64) r52⟩] (by kernel_rfl) (by kernel_rfl) ?_
                        refine JC.bind (A := fun v ex E R => match v with | Sum.inl v => ex = (.exit 2) ∧ E = [(0, .c 1 (.lst 5 (a0.map NodeT.D))), (3, .x (.int .i64 x3))] ∧ R = [] | Sum.inr v => ex = .ret ∧ E = [(2, .x (.bool false))] ∧ R = []) (eyotref18_May_l1_ok a0 x3 a7 r52 k (1 : Int) o54 id9) ?_
                        rintro v ex E' R' hA
                        rcases v with _ | _
                        · obtain ⟨rfl, rfl, rfl⟩ := hA
                          refine JC.to2 [(0, .c 1 (.lst 5 (a0.map NodeT.D))), (3, .x (.int .i64 x3))] [] (by kernel_rfl) (by kernel_rfl) ?_
                          refine JC.exitB ?_
                          refine JC.skipB ?_
                          refine JC.to2 [(0, .c 1 (.lst 5 (a0.map NodeT.D))), (3, .x (.int .i64 x3))] [] (by kernel_rfl) (by kernel_rfl) ?_
                          exact JC.got (ex := .normal) rfl ⟨rfl, rfl, rfl⟩
                        · obtain ⟨rfl, rfl, rfl⟩ := hA
                          refine JC.to2 [(2, .x (.bool false))] [] (by kernel_rfl) (by kernel_rfl) ?_
                          refine JC.retB ?_
                          refine JC.retB ?_
                          refine JC.to2 [(2, .x (.bool false))] [] (by kernel_rfl) (by kernel_rfl) ?_
                          exact JC.got (ex := .ret) rfl ⟨rfl, rfl, rfl⟩
      · rintro v ex E' R' hA
        rcases v with _ | _
        · obtain ⟨rfl, rfl, rfl⟩ := hA
          refine JC.to2 [(0, .c 1 (.lst 5 (a0.map NodeT.D))), (3, .x (.int .i64 x3))] [] (by kernel_rfl) (by kernel_rfl) ?_
          refine JC.skipT ?_
          refine JC.region fun b78 => ?_
          refine JS.run 3 (by kernel_rfl) ?_
          refine JS.nil ?_
          refine JC.to2 [(0, .c 1 (.lst 5 (a0.map NodeT.D))), (3, .x (.int .i64 (IntKind.i64.wrap (x3 + (1 : Int)))))] [] (by kernel_rfl) (by kernel_rfl) ?_
          refine JC.skipL ?_
          refine JC.to2 [(0, .c 1 (.lst 5 (a0.map NodeT.D))), (3, .x (.int .i64 (IntKind.i64.wrap (x3 + (1 : Int)))))] [] (by kernel_rfl) (by kernel_rfl) ?_
          exact ih (IntKind.i64.wrap (x3 + (1 : Int)))
        · obtain ⟨rfl, rfl, rfl⟩ := hA
          refine JC.to2 [(2, .x (.bool false))] [] (by kernel_rfl) (by kernel_rfl) ?_
          refine JC.retT ?_
          refine JC.retL ?_
          refine JC.to2 [(2, .x (.bool false))] [] (by kernel_rfl) (by kernel_rfl) ?_
          exact JC.got (ex := .ret) rfl ⟨rfl, rfl, rfl⟩
    · refine JC.exitT ?_
      refine JC.exitL ?_
      refine JC.to2 [(0, .c 1 (.lst 5 (a0.map NodeT.D)))] [] (by kernel_rfl) (by kernel_rfl) ?_
      exact JC.got (ex := (.exit 0)) rfl ⟨rfl, rfl, rfl⟩
def eyotref18_May (k : Nat) (a0 : (List NodeT)) : Option Bool :=
  (eyotref18_May_l0 a0 k (0 : Int)).bind fun v => match v with | Sum.inl _ => some (decide (((a0.length : Nat) : Int) > (0 : Int))) | Sum.inr _ => some false
theorem eyotref18_May_ok (k : Nat) (a0 : (List NodeT)) : ∀ r, eyotref18_May k a0 = some r → CallOk prog 109 [.c 1 (.lst 5 (a0.map NodeT.D))] false [.sc (.x (.bool r))] := by
  refine CallOk.of' (pf := pf109) (ts := [2]) (Res := fun (r : Bool) => [.sc (.x (.bool r))]) rfl rfl rfl rfl ?_
  unfold eyotref18_May pf109
  refine JC.seq ?_
  refine JC.region fun b1 => ?_
  refine JS.run 1 (by kernel_rfl) ?_
  refine JS.nil ?_
  refine JC.to2 [(0, .c 1 (.lst 5 (a0.map NodeT.D)))] [] (by kernel_rfl) (by kernel_rfl) ?_
  refine JC.skipT ?_
  refine JC.seq ?_
  refine JC.seq ?_
  refine JC.region fun b2 => ?_
  refine JS.run 1 (by kernel_rfl) ?_
  refine JS.nil ?_
  refine JC.to2 [(0, .c 1 (.lst 5 (a0.map NodeT.D))), (3, .x (.int .i64 (0 : Int)))] [] (by kernel_rfl) (by kernel_rfl) ?_
  refine JC.skipT ?_
  refine JC.block ?_
  refine JC.to2 [(0, .c 1 (.lst 5 (a0.map NodeT.D))), (3, .x (.int .i64 (0 : Int)))] [] (by kernel_rfl) (by kernel_rfl) ?_
  refine JC.to2 [(0, .c 1 (.lst 5 (a0.map NodeT.D))), (3, .x (.int .i64 (0 : Int)))] [] (by kernel_rfl) (by kernel_rfl) ?_
  refine JC.bind (A := fun v ex E R => match v with | Sum.inl v => ex = (.exit 0) ∧ E = [(0, .c 1 (.lst 5 (a0.map NodeT.D)))] ∧ R = [] | Sum.inr v => ex = .ret ∧ E = [(2, .x (.bool false))] ∧ R = []) (eyotref18_May_l0_ok a0 k (0 : Int)) ?_
  rintro v ex E' R' hA
  rcases v with _ | _
  · obtain ⟨rfl, rfl, rfl⟩ := hA
    refine JC.to2 [(0, .c 1 (.lst 5 (a0.map NodeT.D)))] [] (by kernel_rfl) (by kernel_rfl) ?_
    refine JC.exitB ?_
    refine JC.skipT ?_
    refine JC.seq ?_
    refine JC.region fun b79 => ?_
    refine JS.run 1 (by kernel_rfl) ?_
    refine JS.lenC (c := NodeT.D) (l := a0) (n := 1) (sz := 5) (by kernel_rfl) (by kernel_rfl) (by kernel_rfl) ?_
    refine JS.run 2 (by kernel_rfl) ?_
    refine JS.nil ?_
    refine JC.to2 [(2, .x (.bool (decide (((a0.length : Nat) : Int) > (0 : Int)))))] [] (by kernel_rfl) (by kernel_rfl) ?_
    refine JC.skipT ?_
    exact JC.fin (ex := .ret) (vs := [.x (.bool (decide (((a0.length : Nat) : Int) > (0 : Int))))]) (is := []) rfl ret_ne (by kernel_rfl) (Outs.sc rfl Outs.nil)
  · obtain ⟨rfl, rfl, rfl⟩ := hA
    refine JC.to2 [(2, .x (.bool false))] [] (by kernel_rfl) (by kernel_rfl) ?_
    refine JC.retB ?_
    refine JC.retT ?_
    exact JC.fin (ex := .ret) (vs := [.x (.bool false)]) (is := []) rfl ret_ne (by kernel_rfl) (Outs.sc rfl Outs.nil)
/-! eyot/eyotref18.Path -/
def eyotref18_Path_l1 (a0 : (List NodeT)) (a1 : Int) (x14 : (List Int)) (r23 : (List Int)) : Nat → Int → Int → Option Int
  | 0, _, _ => none
  | k + 1, x28, x29 => cond (decide (x29 < ((r23.length : Nat) : Int))) ((((at? r23 x29).bind fun a41 => (at? a0 a41).bind fun a45 => cond (decide (a45.from_ ≤ a1)) ((at? r23 x29).bind fun a48 => (at? a0 a48).bind fun a52 => some (decide (a1 < a52.to_))) (some false)).bind fun y39 => cond y39 ((at? r23 x29).bind fun a56 => some a56) (some x28)).bind fun y37 => eyotref18_Path_l1 a0 a1 x14 r23 k y37 (IntKind.i64.wrap (x29 + (1 : Int)))) (some x28)
theorem eyotref18_Path_l1_ok (a0 : (List NodeT)) (a1 : Int) (x14 : (List Int)) (r23 : (List Int))  : ∀ (k : Nat) (x28 : Int) (x29 : Int) (o30 : Option Nat) (o31 : Option Nat), JC prog noFr 77 [(0, .c 1 (.lst 5 (a0.map NodeT.D))), (1, .x (.int .i64 a1)), (5, .ref o30 0 x14.length), (6, .ref o31 0 r23.length), (7, .x (.int .i64 x28)), (8, .x (.int .i64 x29))] [⟨o30, 1, vl (iD .i64) x14⟩, ⟨o31, 1, vl (iD .i64) r23⟩] (.loop pf113_L0) (eyotref18_Path_l1 a0 a1 x14 r23 k x28 x29) (fun x => GotA 77 noFr ((fun v ex E R => ∃ (o32 : Option Nat), ex = (.exit 2) ∧ E = [(0, .c 1 (.lst 5 (a0.map NodeT.D))), (1, .x (.int .i64 a1)), (5, .ref o32 0 x14.length), (7, .x (.int .i64 v))] ∧ R = [⟨o32, 1, vl (iD .i64) x14⟩]) x)) := by
  intro k
  induction k with
  | zero =>
    intro x28 x29 o30 o31
    exact JC.no
  | succ k ih =>
    intro x28 x29 o30 o31
    rw [eyotref18_Path_l1]
    refine JC.loop ?_
    refine JC.seq ?_
    refine JC.seq ?_
    refine JC.region fun b34 => ?_
    refine JS.run 4 (by kernel_rfl) ?_
    refine JS.nil ?_
    refine JC.to2 [(0, .c 1 (.lst 5 (a0.map NodeT.D))), (1, .x (.int .i64 a1)), (5, .ref o30 0 x14.length), (6, .ref o31 0 r23.length), (7, .x (.int .i64 x28)), (8, .x (.int .i64 x29)), (41, .x (.bool (decide (x29 < ((r23.length : Nat) : Int)))))] [⟨o30, 1, vl (iD .i64) x14⟩, ⟨o31, 1, vl (iD .i64) r23⟩] (by kernel_rfl) (by kernel_rfl) ?_
    refine JC.skipT ?_
    refine JC.cond (e := (decide (x29 < ((r23.length : Nat) : Int)))) (by kernel_rfl) (fun h35 => ?_) (fun h35 => ?_)
    · refine JC.skipT ?_
      refine JC.seq ?_
      refine JC.bind (A := fun v ex E R => ∃ (o36 : Option Nat), ex = .normal ∧ E = [(0, .c 1 (.lst 5 (a0.map NodeT.D))), (1, .x (.int .i64 a1)), (5, .ref o30 0 x14.length), (6, .ref o36 0 r23.length), (7, .x (.int .i64 v)), (8, .x (.int .i64 x29))] ∧ R = [⟨o30, 1, vl (iD .i64) x14⟩, ⟨o36, 1, vl (iD .i64) r23⟩]) ?_ ?_
      · refine JC.block ?_
        refine JC.seq ?_
        refine JC.bind (A := fun v ex E R => ∃ (o38 : Option Nat), ex = .normal ∧ E = [(0, .c 1 (.lst 5 (a0.map NodeT.D))), (1, .x (.int .i64 a1)), (5, .ref o30 0 x14.length), (6, .ref o38 0 r23.length), (7, .x (.int .i64 x28)), (8, .x (.int .i64 x29)), (65, .x (.bool v))] ∧ R = [⟨o30, 1, vl (iD .i64) x14⟩, ⟨o38, 1, vl (iD .i64) r23⟩]) ?_ ?_
        · refine JC.region fun b40 => ?_
          refine JS.run 3 (by kernel_rfl) ?_
          refine JS.idxT (c := (iD .i64)) (l := r23) (o := o31) (kk := .i64) (z := x29) 1 (by kernel_rfl) (by kernel_rfl) (by kernel_rfl) (by kernel_rfl) (by kernel_rfl) (fun id43 a41 e44 h42 => ?_)
          subst e44
          refine JS.loadO (id := id43) (sz := 1) (p := x29.toNat) (j := 0) (es := (vl (iD .i64) r23)) (e := (cv (iD .i64) a41)) 1 (by kernel_rfl) (vl_get h42) (by kernel_rfl) (by kernel_rfl) (by kernel_rfl) (by kernel_rfl) ?_
          refine JS.idxC (c := NodeT.D) (l := a0) (n := 1) (kk := .i64) (z := a41) (by kernel_rfl) (by kernel_rfl) (by kernel_rfl) (by kernel_rfl) (fun a45 h46 => ?_)
          refine JS.run 5 (by kernel_rfl) ?_
          refine JS.split (e := (decide (a45.from_ ≤ a1))) 54 (by kernel_rfl) (fun h47 => ?_) (fun h47 => ?_)
          · refine JS.run 4 (by kernel_rfl) ?_
            refine JS.idxT (c := (iD .i64)) (l := r23) (o := (some id43)) (kk := .i64) (z := x29) 1 (by kernel_rfl) (by kernel_rfl) (by kernel_rfl) (by kernel_rfl) (by kernel_rfl) (fun id50 a48 e51 h49 => ?_)
            have e51' : id43 = id50 := by injection e51
            subst e51'
            refine JS.loadO (id := id43) (sz := 1) (p := x29.toNat) (j := 0) (es := (vl (iD .i64) r23)) (e := (cv (iD .i64) a48)) 1 (by kernel_rfl) (vl_get h49) (by kernel_rfl) (by kernel_rfl) (by kernel_rfl) (by kernel_rfl) ?_
            refine JS.idxC (c := NodeT.D) (l := a0) (n := 1) (kk := .i64) (z := a48) (by kernel_rfl) (by kernel_rfl) (by kernel_rfl) (by kernel_rfl) (fun a52 h53 => ?_)
            refine JS.run 4 (by kernel_rfl) ?_
            refine JS.nil ?_
            refine JC.to2 [(0, .c 1 (.lst 5 (a0.map NodeT.D))), (1, .x (.int .i64 a1)), (5, .ref o30 0 x14.length), (6, .ref (some id43) 0 r23.length), (7, .x (.int .i64 x28)), (8, .x (.int .i64 x29)), (65, .x (.bool (decide (a1 < a52.to_))))] [⟨o30, 1, vl (iD .i64) x14⟩, ⟨(some id43), 1, vl (iD .i64) r23⟩] (by kernel_rfl) (by kernel_rfl) ?_
            refine JC.to2 [(0, .c 1 (.lst 5 (a0.map NodeT.D))), (1, .x (.int .i64 a1)), (5, .ref o30 0 x14.length), (6, .ref (some id43) 0 r23.length), (7, .x (.int .i64 x28)), (8, .x (.int .i64 x29)), (65, .x (.bool (decide (a1 < a52.to_))))] [⟨o30, 1, vl (iD .i64) x14⟩, ⟨(some id43), 1, vl (iD .i64) r23⟩] (by kernel_rfl) (by kernel_rfl) ?_
            exact JC.got (ex := .normal) rfl ⟨(some id43), rfl, rfl, rfl⟩
          · refine JS.run 11 (by kernel_rfl) ?_
            refine JS.nil ?_
            refine JC.to2 [(0, .c 1 (.lst 5 (a0.map NodeT.D))), (1, .x (.int .i64 a1)), (5, .ref o30 0 x14.length), (6, .ref (some id43) 0 r23.length), (7, .x (.int .i64 x28)), (8, .x (.int .i64 x29)), (65, .x (.bool false))] [⟨o30, 1, vl (iD .i64) x14⟩, ⟨(some id43), 1, vl (iD .i64) r23⟩] (by kernel_rfl) (by kernel_rfl) ?_
            refine JC.to2 [(0, .c 1 (.lst 5 (a0.map NodeT.D))), (1, .x (.int .i64 a1)), (5, .ref o30 0 x14.length), (6, .ref (some id43) 0 r23.length), (7, .x (.int .i64 x28)), (8, .x (.int .i64 x29)), (65, .x (.bool false))] [⟨o30, 1, vl (iD .i64) x14⟩, ⟨(some id43), 1, vl (iD .i64) r23⟩] (by kernel_rfl) (by kernel_rfl) ?_
            exact JC.got (ex := .normal) rfl ⟨(some id43), rfl, rfl, rfl⟩
        · rintro y39 ex E' R' hA
          obtain ⟨o38, rfl, rfl, rfl⟩ := hA
          refine JC.to2 [(0, .c 1 (.lst 5 (a0.map NodeT.D))), (1, .x (.int .i64 a1)), (5, .ref o30 0 x14.length), (6, .ref o38 0 r23.length), (7, .x (.int .i64 x28)), (8, .x (.int .i64 x29)), (65, .x (.bool y39))] [⟨o30, 1, vl (iD .i64) x14⟩, ⟨o38, 1, vl (iD .i64) r23⟩] (by kernel_rfl) (by kernel_rfl) ?_
          refine JC.skipT ?_
          refine JC.cond (e := y39) (by kernel_rfl) (fun h54 => ?_) (fun h54 => ?_)
          · refine JC.region fun b55 => ?_
            refine JS.run 2 (by kernel_rfl) ?_
            refine JS.idxT (c := (iD .i64)) (l := r23) (o := o38) (kk := .i64) (z := x29) 1 (by kernel_rfl) (by kernel_rfl) (by kernel_rfl) (by kernel_rfl) (by kernel_rfl) (fun id58 a56 e59 h57 => ?_)
            subst e59
            refine JS.loadO (id := id58) (sz := 1) (p := x29.toNat) (j := 0) (es := (vl (iD .i64) r23)) (e := (cv (iD .i64) a56)) 1 (by kernel_rfl) (vl_get h57) (by kernel_rfl) (by kernel_rfl) (by kernel_rfl) (by kernel_rfl) ?_
            refine JS.run 1 (by kernel_rfl) ?_
            refine JS.nil ?_
            refine JC.to2 [(0, .c 1 (.lst 5 (a0.map NodeT.D))), (1, .x (.int .i64 a1)), (5, .ref o30 0 x14.length), (6, .ref (some id58) 0 r23.length), (7, .x (.int .i64 a56)), (8, .x (.int .i64 x29))] [⟨o30, 1, vl (iD .i64) x14⟩, ⟨(some id58), 1, vl (iD .i64) r23⟩] (by kernel_rfl) (by kernel_rfl) ?_
            refine JC.skipB ?_
            refine JC.to2 [(0, .c 1 (.lst 5 (a0.map NodeT.D))), (1, .x (.int .i64 a1)), (5, .ref o30 0 x14.length), (6, .ref (some id58) 0 r23.length), (7, .x (.int .i64 a56)), (8, .x (.int .i64 x29))] [⟨o30, 1, vl (iD .i64) x14⟩, ⟨(some id58), 1, vl (iD .i64) r23⟩] (by kernel_rfl) (by kernel_rfl) ?_
            exact JC.got (ex := .normal) rfl ⟨(some id58), rfl, rfl, rfl⟩
          · refine JC.skipB ?_
            refine JC.to2 [(0, .c 1 (.lst 5 (a0.map NodeT.D))), (1, .x (.int .i64 a1)), (5, .ref o30 0 x14.length), (6, .ref o38 0 r23.length), (7, .x (.int .i64 x28)), (8, .x (.int .i64 x29))] [⟨o30, 1, vl (iD .i64) x14⟩, ⟨o38, 1, vl (iD .i64) r23⟩] (by kernel_rfl) (by kernel_rfl) ?_
            exact JC.got (ex := .normal) rfl ⟨o38, rfl, rfl, rfl⟩
      · rintro y37 ex E' R' hA
        obtain ⟨o36, rfl, rfl, rfl⟩ := hA
        refine JC.to2 [(0, .c 1 (.lst 5 (a0.map NodeT.D))), (1, .x (.int .i64 a1)), (5, .ref o30 0 x14.length), (6, .ref o36 0 r23.length), (7, .x (.int .i64 y37)), (8, .x (.int .i64 x29))] [⟨o30, 1, vl (iD .i64) x14⟩, ⟨o36, 1, vl (iD .i64) r23⟩] (by kernel_rfl) (by kernel_rfl) ?_
        refine JC.skipT ?_
        refine JC.region fun b60 => ?_
        refine JS.run 3 (by kernel_rfl) ?_
        refine JS.nil ?_
        refine JC.to2 [(0, .c 1 (.lst 5 (a0.map NodeT.D))), (1, .x (.int .i64 a1)), (5, .ref o30 0 x14.length), (6, .ref o36 0 r23.length), (7, .x (.int .i64 y37)), (8, .x (.int .i64 (IntKind.i64.wrap (x29 + (1 : Int)))))] [⟨o30, 1, vl (iD .i64) x14⟩, ⟨o36, 1, vl (iD .i64) r23⟩] (by kernel_rfl) (by kernel_rfl) ?_
        refine JC.skipL ?_
        refine JC.to2 [(0, .c 1 (.lst 5 (a0.map NodeT.D))), (1, .x (.int .i64 a1)), (5, .ref o30 0 x14.length), (6, .ref o36 0 r23.length), (7, .x (.int .i64 y37)), (8, .x (.int .i64 (IntKind.i64.wrap (x29 + (1 : Int)))))] [⟨o30, 1, vl (iD .i64) x14⟩, ⟨o36, 1, vl (iD .i64) r23⟩] (by kernel_rfl) (by kernel_rfl) ?_
        exact ih y37 (IntKind.i64.wrap (x29 + (1 : Int))) o30 o36
    · refine JC.exitT ?_
      refine JC.exitL ?_
      refine JC.drop 1 ?_
      refine JC.to2 [(0, .c 1 (.lst 5 (a0.map NodeT.D))), (1, .x (.int .i64 a1)), (5, .ref o30 0 x14.length), (7, .x (.int .i64 x28))] [⟨o30, 1, vl (iD .i64) x14⟩] (by kernel_rfl) (by kernel_rfl) ?_
      exact JC.got (ex := (.exit 2)) rfl ⟨o30, rfl, rfl, rfl⟩
def eyotref18_Path_l0 (a0 : (List NodeT)) (a1 : Int) : Nat → (List Int) → Option (List Int)
  | 0, _ => none
  | k + 1, x14 => (at? x14 (IntKind.i64.wrap (((x14.length : Nat) : Int) - (1 : Int)))).bind fun a19 => (eyotref18_Kids k a0 a19).bind fun r23 => (eyotref18_Path_l1 a0 a1 x14 r23 k (-1 : Int) (0 : Int)).bind fun y33 => cond (decide (y33 < (0 : Int))) (some x14) (room (x14.length + ([y33] : List Int).length) 8 (eyotref18_Path_l0 a0 a1 k (x14 ++ ([y33] : List Int))))
theorem eyotref18_Path_l0_ok (a0 : (List NodeT)) (a1 : Int)  : ∀ (k : Nat) (x14 : (List Int)) (o15 : Option Nat), JC prog noFr 77 [(0, .c 1 (.lst 5 (a0.map NodeT.D))), (1, .x (.int .i64 a1)), (5, .ref o15 0 x14.length)] [⟨o15, 1, vl (iD .i64) x14⟩] (.loop pf113_L1) (eyotref18_Path_l0 a0 a1 k x14) (fun x => GotA 77 noFr ((fun v ex E R => ∃ (o17 : Option Nat), ex = .ret ∧ E = [(4, .ref o17 0 v.length)] ∧ R = [⟨o17, 1, vl (iD .i64) v⟩]) x)) := by
  intro k
  induction k with
  | zero =>
    intro x14 o15
    exact JC.no
  | succ k ih =>
    intro x14 o15
    rw [eyotref18_Path_l0]
    refine JC.loop ?_
    refine JC.block ?_
    refine JC.seq ?_
    refine JC.region fun b18 => ?_
    refine JS.run 5 (by kernel_rfl) ?_
    refine JS.idxT (c := (iD .i64)) (l := x14) (o := o15) (kk := .i64) (z := (IntKind.i64.wrap (((x14.length : Nat) : Int) - (1 : Int)))) 0 (by kernel_rfl) (by kernel_rfl) (by kernel_rfl) (by kernel_rfl) (by kernel_rfl) (fun id21 a19 e22 h20 => ?_)
    subst e22
    refine JS.loadO (id := id21) (sz := 1) (p := (IntKind.i64.wrap (((x14.length : Nat) : Int) - (1 : Int))).toNat) (j := 0) (es := (vl (iD .i64) x14)) (e := (cv (iD .i64) a19)) 0 (by kernel_rfl) (vl_get h20) (by kernel_rfl) (by kernel_rfl) (by kernel_rfl) (by kernel_rfl) ?_
    refine JS.bind fun r23 h24 => ?_
    refine JS.callK1 [] (eyotref18_Kids_ok k a0 a19 r23 h24) ⟨rfl, argC (n := 1) (by kernel_rfl) (by kernel_rfl) (by kernel_rfl), rfl, argX (d := (.int .i64 a19)) (by kernel_rfl) (by kernel_rfl), trivial⟩ ⟨vl_sc (fun _ => rfl), trivial⟩ (by kernel_rfl) (by kernel_rfl) (by kernel_rfl) (by kernel_rfl) (fun o25 => ?_)
    refine JS.relen (o := o25) (off := 0) (n := (vl (iD .i64) r23).length) (n' := r23.length) 37 (by kernel_rfl) (vl_len _ _) ?_
    refine JS.run 1 (by kernel_rfl) ?_
    refine JS.nil ?_
    refine JC.to2 [(0, .c 1 (.lst 5 (a0.map NodeT.D))), (1, .x (.int .i64 a1)), (5, .ref (some id21) 0 x14.length), (6, .ref o25 0 r23.length)] [⟨(some id21), 1, vl (iD .i64) x14⟩, ⟨o25, 1, vl (iD .i64) r23⟩] (by kernel_rfl) (by kernel_rfl) ?_
    refine JC.skipT ?_
    refine JC.seq ?_
    refine JC.region fun b26 => ?_
    refine JS.run 1 (by kernel_rfl) ?_
    refine JS.nil ?_
    refine JC.to2 [(0, .c 1 (.lst 5 (a0.map NodeT.D))), (1, .x (.int .i64 a1)), (5, .ref (some id21) 0 x14.length), (6, .ref o25 0 r23.length), (7, .x (.int .i64 (-1 : Int)))] [⟨(some id21), 1, vl (iD .i64) x14⟩, ⟨o25, 1, vl (iD .i64) r23⟩] (by kernel_rfl) (by kernel_rfl) ?_
    refine JC.skipT ?_
    refine JC.seq ?_
    refine JC.seq ?_
    refine JC.region fun b27 => ?_
    refine JS.run 1 (by kernel_rfl) ?_
    refine JS.nil ?_
    refine JC.to2 [(0, .c 1 (.lst 5 (a0.map NodeT.D))), (1, .x (.int .i64 a1)), (5, .ref (some id21) 0 x14.length), (6, .ref o25 0 r23.length), (7, .x (.int .i64 (-1 : Int))), (8, .x (.int .i64 (0 : Int)))] [⟨(some id21), 1, vl (iD .i64) x14⟩, ⟨o25, 1, vl (iD .i64) r23⟩] (by kernel_rfl) (by kernel_rfl) ?_
    refine JC.skipT ?_
    refine JC.block ?_
    refine JC.to2 [(0, .c 1 (.lst 5 (a0.map NodeT.D))), (1, .x (.int .i64 a1)), (5, .ref (some id21) 0 x14.length), (6, .ref o25 0 r23.length), (7, .x (.int .i64 (-1 : Int))), (8, .x (.int .i64 (0 : Int)))] [⟨(some id21), 1, vl (iD .i64) x14⟩, ⟨o25, 1, vl (iD .i64) r23⟩] (by kernel_rfl) (by kernel_rfl) ?_
    refine JC.to2 [(0, .c 1 (.lst 5 (a0.map NodeT.D))), (1, .x (.int .i64 a1)), (5, .ref (some id21) 0 x14.length), (6, .ref o25 0 r23.length), (7, .x (.int .i64 (-1 : Int))), (8, .x (.int .i64 (0 : Int)))] [⟨(some id21), 1, vl (iD .i64) x14⟩, ⟨o25, 1, vl (iD .i64) r23⟩] (by kernel_rfl) (by kernel_rfl) ?_
    refine JC.bind (A := fun v ex E R => ∃ (o32 : Option Nat), ex = (.exit 2) ∧ E = [(0, .c 1 (.lst 5 (a0.map NodeT.D))), (1, .x (.int .i64 a1)), (5, .ref o32 0 x14.length), (7, .x (.int .i64 v))] ∧ R = [⟨o32, 1, vl (iD .i64) x14⟩]) (eyotref18_Path_l1_ok a0 a1 x14 r23 k (-1 : Int) (0 : Int) (some id21) o25) ?_
    rintro y33 ex E' R' hA
    obtain ⟨o32, rfl, rfl, rfl⟩ := hA
    refine JC.to2 [(0, .c 1 (.lst 5 (a0.map NodeT.D))), (1, .x (.int .i64 a1)), (5, .ref o32 0 x14.length), (7, .x (.int .i64 y33))] [⟨o32, 1, vl (iD .i64) x14⟩] (by kernel_rfl) (by kernel_rfl) ?_
    refine JC.exitB ?_
    refine JC.skipT ?_
    refine JC.seq ?_
    refine JC.seq ?_
    refine JC.region fun b61 => ?_
    refine JS.run 2 (by kernel_rfl) ?_
    refine JS.nil ?_
    refine JC.to2 [(0, .c 1 (.lst 5 (a0.map NodeT.D))), (1, .x (.int .i64 a1)), (5, .ref o32 0 x14.length), (7, .x (.int .i64 y33)), (71, .x (.bool (decide (y33 < (0 : Int)))))] [⟨o32, 1, vl (iD .i64) x14⟩] (by kernel_rfl) (by kernel_rfl) ?_
    refine JC.skipT ?_
    refine JC.cond (e := (decide (y33 < (0 : Int)))) (by kernel_rfl) (fun h62 => ?_) (fun h62 => ?_)
    · refine JC.seq ?_
      refine JC.region fun b63 => ?_
      refine JS.run 2 (by kernel_rfl) ?_
      refine JS.nil ?_
      refine JC.to2 [(4, .ref o32 0 x14.length)] [⟨o32, 1, vl (iD .i64) x14⟩] (by kernel_rfl) (by kernel_rfl) ?_
      refine JC.skipT ?_
      refine JC.retT ?_
      refine JC.retB ?_
      refine JC.retL ?_
      refine JC.to2 [(4, .ref o32 0 x14.length)] [⟨o32, 1, vl (iD .i64) x14⟩] (by kernel_rfl) (by kernel_rfl) ?_
      exact JC.got (ex := .ret) rfl ⟨o32, rfl, rfl, rfl⟩
    · refine JC.skipT ?_
      refine JC.region fun b64 => ?_
      refine JS.run 2 (by kernel_rfl) ?_
      refine JS.buildSlice (c := (iD .i64)) ([y33] : List Int) (by kernel_rfl) (by kernel_rfl) (by kernel_rfl) (by kernel_rfl) (by kernel_rfl) (fun id65 => ?_)
      refine JS.appT (c := (iD .i64)) (l := x14) (k := ([y33] : List Int)) (o := o32) 0 (by kernel_rfl) (by kernel_rfl) (srcT (c := (iD .i64)) (l := ([y33] : List Int)) (o := (some id65)) 1 (by kernel_rfl) (by kernel_rfl)) (by kernel_rfl) (by kernel_rfl) (by kernel_rfl) (fun o66 => ?_)
      refine JS.run 1 (by kernel_rfl) ?_
      refine JS.nil ?_
      refine JC.drop 1 ?_
      refine JC.to2 [(0, .c 1 (.lst 5 (a0.map NodeT.D))), (1, .x (.int .i64 a1)), (5, .ref o66 0 ((x14 ++ ([y33] : List Int)).length))] [⟨o66, 1, vl (iD .i64) (x14 ++ ([y33] : List Int))⟩] (by kernel_rfl) (by kernel_rfl) ?_
      refine JC.skipB ?_
      refine JC.skipL ?_
      refine JC.to2 [(0, .c 1 (.lst 5 (a0.map NodeT.D))), (1, .x (.int .i64 a1)), (5, .ref o66 0 ((x14 ++ ([y33] : List Int)).length))] [⟨o66, 1, vl (iD .i64) (x14 ++ ([y33] : List Int))⟩] (by kernel_rfl) (by kernel_rfl) ?_
      exact ih (x14 ++ ([y33] : List Int)) o66
def eyotref18_Path (k : Nat) (a0 : (List NodeT)) (a1 : Int) : Option (List Int) :=
  (cond (((a0.length : Nat) : Int) == (0 : Int)) (some true) ((at? a0 (0 : Int)).bind fun a5 => cond (decide (a5.from_ ≤ a1)) ((at? a0 (0 : Int)).bind fun a8 => some (!(decide (a1 < a8.to_)))) (some true))).bind fun y2 => cond y2 (some ([] : (List Int))) ((eyotref18_Path_l0 a0 a1 k ([(0 : Int)] : List Int)).bind fun y16 => some y16)
theorem eyotref18_Path_ok (k : Nat) (a0 : (List NodeT)) (a1 : Int) : ∀ r, eyotref18_Path k a0 a1 = some r → CallOk prog 113 [.c 1 (.lst 5 (a0.map NodeT.D)), .x (.int .i64 a1)] false [.own 1 (vl (iD .i64) r)] := by
  refine CallOk.of' (pf := pf113) (ts := [4]) (Res := fun (r : (List Int)) => [.own 1 (vl (iD .i64) r)]) rfl rfl rfl rfl ?_
  unfold eyotref18_Path pf113
  refine JC.seq ?_
  refine JC.region fun b1 => ?_
  refine JS.run 1 (by kernel_rfl) ?_
  refine JS.nil ?_
  refine JC.to2 [(0, .c 1 (.lst 5 (a0.map NodeT.D))), (1, .x (.int .i64 a1))] [] (by kernel_rfl) (by kernel_rfl) ?_
  refine JC.skipT ?_
  refine JC.seq ?_
  refine JC.seq ?_
  refine JC.bind (A := fun v ex E R => ex = .normal ∧ E = [(0, .c 1 (.lst 5 (a0.map NodeT.D))), (1, .x (.int .i64 a1)), (28, .x (.bool v))] ∧ R = []) ?_ ?_
  · refine JC.region fun b3 => ?_
    refine JS.run 1 (by kernel_rfl) ?_
    refine JS.lenC (c := NodeT.D) (l := a0) (n := 1) (sz := 5) (by kernel_rfl) (by kernel_rfl) (by kernel_rfl) ?_
    refine JS.run 2 (by kernel_rfl) ?_
    refine JS.split (e := (((a0.length : Nat) : Int) == (0 : Int))) 12 (by kernel_rfl) (fun h4 => ?_) (fun h4 => ?_)
    · refine JS.run 16 (by kernel_rfl) ?_
      refine JS.nil ?_
      refine JC.to2 [(0, .c 1 (.lst 5 (a0.map NodeT.D))), (1, .x (.int .i64 a1)), (28, .x (.bool true))] [] (by kernel_rfl) (by kernel_rfl) ?_
      refine JC.to2 [(0, .c 1 (.lst 5 (a0.map NodeT.D))), (1, .x (.int .i64 a1)), (28, .x (.bool true))] [] (by kernel_rfl) (by kernel_rfl) ?_
      exact JC.got (ex := .normal) rfl ⟨rfl, rfl, rfl⟩
    · refine JS.run 1 (by kernel_rfl) ?_
      refine JS.idxC (c := NodeT.D) (l := a0) (n := 1) (kk := .i64) (z := (0 : Int)) (by kernel_rfl) (by kernel_rfl) (by kernel_rfl) (by kernel_rfl) (fun a5 h6 => ?_)
      refine JS.run 5 (by kernel_rfl) ?_
      refine JS.split (e := (decide (a5.from_ ≤ a1))) 19 (by kernel_rfl) (fun h7 => ?_) (fun h7 => ?_)
      · refine JS.run 2 (by kernel_rfl) ?_
        refine JS.idxC (c := NodeT.D) (l := a0) (n := 1) (kk := .i64) (z := (0 : Int)) (by kernel_rfl) (by kernel_rfl) (by kernel_rfl) (by kernel_rfl) (fun a8 h9 => ?_)
        refine JS.run 6 (by kernel_rfl) ?_
        refine JS.nil ?_
        refine JC.to2 [(0, .c 1 (.lst 5 (a0.map NodeT.D))), (1, .x (.int .i64 a1)), (28, .x (.bool (!(decide (a1 < a8.to_)))))] [] (by kernel_rfl) (by kernel_rfl) ?_
        refine JC.to2 [(0, .c 1 (.lst 5 (a0.map NodeT.D))), (1, .x (.int .i64 a1)), (28, .x (.bool (!(decide (a1 < a8.to_)))))] [] (by kernel_rfl) (by kernel_rfl) ?_
        exact JC.got (ex := .normal) rfl ⟨rfl, rfl, rfl⟩
      · refine JS.run 9 (by kernel_rfl) ?_
        refine JS.nil ?_
        refine JC.to2 [(0, .c 1 (.lst 5 (a0.map NodeT.D))), (1, .x (.int .i64 a1)), (28, .x (.bool true))] [] (by kernel_rfl) (by kernel_rfl) ?_
        refine JC.to2 [(0, .c 1 (.lst 5 (a0.map NodeT.D))), (1, .x (.int .i64 a1)), (28, .x (.bool true))] [] (by kernel_rfl) (by kernel_rfl) ?_
        exact JC.got (ex := .normal) rfl ⟨rfl, rfl, rfl⟩
  · rintro y2 ex E' R' hA
    obtain ⟨rfl, rfl, rfl⟩ := hA
    refine JC.to2 [(0, .c 1 (.lst 5 (a0.map NodeT.D))), (1, .x (.int .i64 a1)), (28, .x (.bool y2))] [] (by kernel_rfl) (by kernel_rfl) ?_
    refine JC.skipT ?_
    refine JC.cond (e := y2) (by kernel_rfl) (fun h10 => ?_) (fun h10 => ?_)
    · refine JC.seq ?_
      refine JC.region fun b11 => ?_
      refine JS.run 1 (by kernel_rfl) ?_
      refine JS.nil ?_
      refine JC.to2 [(4, .x .nil)] [] (by kernel_rfl) (by kernel_rfl) ?_
      refine JC.skipT ?_
      refine JC.retT ?_
      exact JC.fin (ex := .ret) (vs := [.x .nil]) (is := []) rfl ret_ne (by kernel_rfl) (Outs.nl Outs.nil)
    · refine JC.skipT ?_
      refine JC.seq ?_
      refine JC.region fun b12 => ?_
      refine JS.buildSlice (c := (iD .i64)) ([(0 : Int)] : List Int) (by kernel_rfl) (by kernel_rfl) (by kernel_rfl) (by kernel_rfl) (by kernel_rfl) (fun id13 => ?_)
      refine JS.run 1 (by kernel_rfl) ?_
      refine JS.nil ?_
      refine JC.to2 [(0, .c 1 (.lst 5 (a0.map NodeT.D))), (1, .x (.int .i64 a1)), (5, .ref (some id13) 0 (([(0 : Int)] : List Int).length))] [⟨(some id13), 1, vl (iD .i64) ([(0 : Int)] : List Int)⟩] (by kernel_rfl) (by kernel_rfl) ?_
      refine JC.skipT ?_
      refine JC.block ?_
      refine JC.to2 [(0, .c 1 (.lst 5 (a0.map NodeT.D))), (1, .x (.int .i64 a1)), (5, .ref (some id13) 0 (([(0 : Int)] : List Int).length))] [⟨(some id13), 1, vl (iD .i64) ([(0 : Int)] : List Int)⟩] (by kernel_rfl) (by kernel_rfl) ?_
      refine JC.to2 [(0, .c 1 (.lst 5 (a0.map NodeT.D))), (1, .x (.int .i64 a1)), (5, .ref (some id13) 0 (([(0 : Int)] : List Int).length))] [⟨(some id13), 1, vl (iD .i64) ([(0 : Int)] : List Int)⟩] (by kernel_rfl) (by kernel_rfl) ?_
      refine JC.bind (A := fun v ex E R => ∃ (o17 : Option Nat), ex = .ret ∧ E = [(4, .ref o17 0 v.length)] ∧ R = [⟨o17, 1, vl (iD .i64) v⟩]) (eyotref18_Path_l0_ok a0 a1 k ([(0 : Int)] : List Int) (some id13)) ?_
      rintro y16 ex E' R' hA
      obtain ⟨o17, rfl, rfl, rfl⟩ := hA
      refine JC.to2 [(4, .ref o17 0 y16.length)] [⟨o17, 1, vl (iD .i64) y16⟩] (by kernel_rfl) (by kernel_rfl) ?_
      refine JC.retB ?_
      refine JC.relen (o := o17) (off := 0) (n := y16.length) (n' := (vl (iD .i64) y16).length) 4 (by kernel_rfl) (vl_len _ _).symm ?_
      exact JC.fin (ex := .ret) (vs := [.ref o17 0 (vl (iD .i64) y16).length]) (is := [0]) rfl ret_ne (by kernel_rfl) (Outs.own (i := 0) (by kernel_rfl) (vl_out fun _ => rfl) rfl Outs.nil)
/-! eyot/tree.May -/
def tree_May_l0 (a0 : (List NodeT)) : Nat → Int → (List Int) → (List Int) → Option (Unit ⊕ Unit)
  | 0, _, _, _ => none
  | k + 1, x12, x13, x15 => cond (decide (x12 < ((a0.length : Nat) : Int))) (((at? a0 x12).bind fun a24 => (tree_word k (⟨a24.Depth, a24.Rule, a24.Token, a24.from_, a24.to_⟩ : NodeT)).bind fun r28 => (cond (!r28.2) (some true) (cond (decide (a24.from_ > a24.to_)) (some true) (cond (decide (x12 > (0 : Int))) (cond (decide (a24.Depth < (1 : Int))) (some true) ((at? a0 (IntKind.i64.wrap (x12 - (1 : Int)))).bind fun a36 => some (decide (a24.Depth > (IntKind.i64.wrap (a36.Depth + (1 : Int))))))) (some false)))).bind fun y30 => cond y30 (some (Sum.inr ())) ((hi? x13.length a24.Depth).bind fun p41 => (hi? x15.length a24.Depth).bind fun p43 => cond (decide (x12 > (0 : Int))) ((at? (List.take p41 (List.drop 0 x13)) (IntKind.i64.wrap (a24.Depth - (1 : Int)))).bind fun a48 => (at? a0 a48).bind fun a52 => (tree_word k (⟨a52.Depth, a52.Rule, a52.Token, a52.from_, a52.to_⟩ : NodeT)).bind fun r56 => cond r56.1 (some (Sum.inr ())) ((at? (List.take p43 (List.drop 0 x15)) (IntKind.i64.wrap (a24.Depth - (1 : Int)))).bind fun a61 => cond (decide (a24.from_ < a61)) (some (Sum.inr ())) (cond (decide (a24.to_ > a52.to_)) (some (Sum.inr ())) ((at? (List.take p43 (List.drop 0 x15)) (IntKind.i64.wrap (a24.Depth - (1 : Int)))).bind fun a70 => room (p41 + ([x12] : List Int).length) 8 (room (p43 + ([a24.from_] : List Int).length) 8 (some (Sum.inl ((List.take p41 x13 ++ ([x12] : List Int)), (List.take p43 (List.set x15 (0 + (IntKind.i64.wrap (a24.Depth - (1 : Int))).toNat) a24.to_) ++ ([a24.from_] : List Int)))))))))) (room (p41 + ([x12] : List Int).length) 8 (room (p43 + ([a24.from_] : List Int).length) 8 (some (Sum.inl ((List.take p41 x13 ++ ([x12] : List Int)), (List.take p43 x15 ++ ([a24.from_] : List Int))))))))).bind fun v => match v with | Sum.inl (y19, y21) => tree_May_l0 a0 k (IntKind.i64.wrap (x12 + (1 : Int))) y19 y21 | Sum.inr _ => some (Sum.inr ())) (some (Sum.inl ()))
theorem tree_May_l0_ok (a0 : (List NodeT))  : ∀ (k : Nat) (x12 : Int) (x13 : (List Int)) (x15 : (List Int)) (o14 : Option Nat) (o16 : Option Nat), JC prog noFr 124 [(0, .c 1 (.lst 5 (a0.map NodeT.D))), (3, .ref o14 0 x13.length), (4, .ref o16 0 x15.length), (22, .c 1 (.lst 5 (a0.map NodeT.D))), (23, .x (.int .i64 ((a0.length : Nat) : Int))), (24, .x (.int .i64 x12))] [⟨o14, 1, vl (iD .i64) x13⟩, ⟨o16, 1, vl (iD .i64) x15⟩] (.loop pf110_L0) (tree_May_l0 a0 k x12 x13 x15) (fun x => GotA 124 noFr ((fun v ex E R => match v with | Sum.inl v => ex = (.exit 0) ∧ E = [] ∧ R = [] | Sum.inr v => ex = .ret ∧ E = [(2, .x (.bool false))] ∧ R = []) x)) := by
  intro k
  induction k with
  | zero =>
    intro x12 x13 x15 o14 o16
    exact JC.no
  | succ k ih =>
    intro x12 x13 x15 o14 o16
    rw [tree_May_l0]
    refine JC.loop ?_
    refine JC.seq ?_
    refine JC.region fun b17 => ?_
    refine JS.run 1 (by kernel_rfl) ?_
    refine JS.nil ?_
    refine JC.to2 [(0, .c 1 (.lst 5 (a0.map NodeT.D))), (3, .ref o14 0 x13.length), (4, .ref o16 0 x15.length), (22, .c 1 (.lst 5 (a0.map NodeT.D))), (23, .x (.int .i64 ((a0.length : Nat) : Int))), (24, .x (.int .i64 x12)), (25, .x (.bool (decide (x12 < ((a0.length : Nat) : Int)))))] [⟨o14, 1, vl (iD .i64) x13⟩, ⟨o16, 1, vl (iD .i64) x15⟩] (by kernel_rfl) (by kernel_rfl) ?_
    refine JC.skipT ?_
    refine JC.seq ?_
    refine JC.cond (e := (decide (x12 < ((a0.length : Nat) : Int)))) (by kernel_rfl) (fun h18 => ?_) (fun h18 => ?_)
    · refine JC.skipT ?_
      refine JC.seq ?_
      refine JC.bind (A := fun v ex E R => match v with | Sum.inl v => ∃ (o20 : Option Nat), ∃ (o22 : Option Nat), ex = .normal ∧ E = [(0, .c 1 (.lst 5 (a0.map NodeT.D))), (3, .ref o20 0 v.1.length), (4, .ref o22 0 v.2.length), (22, .c 1 (.lst 5 (a0.map NodeT.D))), (23, .x (.int .i64 ((a0.length : Nat) : Int))), (24, .x (.int .i64 x12))] ∧ R = [⟨o20, 1, vl (iD .i64) v.1⟩, ⟨o22, 1, vl (iD .i64) v.2⟩] | Sum.inr v => ex = .ret ∧ E = [(2, .x (.bool false))] ∧ R = []) ?_ ?_
      · refine JC.block ?_
        refine JC.seq ?_
        refine JC.region fun b23 => ?_
        refine JS.run 1 (by kernel_rfl) ?_
        refine JS.idxC (c := NodeT.D) (l := a0) (n := 1) (kk := .i64) (z := x12) (by kernel_rfl) (by kernel_rfl) (by kernel_rfl) (by kernel_rfl) (fun a24 h25 => ?_)
        refine JS.run 1 (by kernel_rfl) ?_
        refine JS.alloc (by kernel_rfl) (by kernel_rfl) (by kernel_rfl) (fun id26 => ?_)
        refine JS.run 1 (by kernel_rfl) ?_
        refine JS.storeO (id := id26) (sz := 5) (p := 0) (j := 0) (es := [[.x (.int .i64 (0 : Int)), .x (.int .i64 (0 : Int)), .x (.int .i64 (0 : Int)), .x (.int .i64 (0 : Int)), .x (.int .i64 (0 : Int))]]) (es2 := [[.x (.int .i64 a24.Depth), .x (.int .i64 a24.Rule), .x (.int .i64 a24.Token), .x (.int .i64 a24.from_), .x (.int .i64 a24.to_)]]) (e := [.x (.int .i64 (0 : Int)), .x (.int .i64 (0 : Int)), .x (.int .i64 (0 : Int)), .x (.int .i64 (0 : Int)), .x (.int .i64 (0 : Int))]) (w := .agg [.x (.int .i64 a24.Depth), .x (.int .i64 a24.Rule), .x (.int .i64 a24.Token), .x (.int .i64 a24.from_), .x (.int .i64 a24.to_)]) 2 (by kernel_rfl) (by kernel_rfl) (by kernel_rfl) (by kernel_rfl) (by kernel_rfl) (by kernel_rfl) (by kernel_rfl) ?_
        refine JS.nil ?_
        refine JC.to2 [(0, .c 1 (.lst 5 (a0.map NodeT.D))), (3, .ref o14 0 x13.length), (4, .ref o16 0 x15.length), (5, .x (.int .i64 x12)), (6, .ptr id26 5 0 0), (22, .c 1 (.lst 5 (a0.map NodeT.D))), (23, .x (.int .i64 ((a0.length : Nat) : Int))), (24, .x (.int .i64 x12))] [⟨o14, 1, vl (iD .i64) x13⟩, ⟨o16, 1, vl (iD .i64) x15⟩, ⟨(some id26), 5, [[.x (.int .i64 a24.Depth), .x (.int .i64 a24.Rule), .x (.int .i64 a24.Token), .x (.int .i64 a24.from_), .x (.int .i64 a24.to_)]]⟩] (by kernel_rfl) (by kernel_rfl) ?_
        refine JC.skipT ?_
        refine JC.seq ?_
        refine JC.region fun b27 => ?_
        refine JS.loadO (id := id26) (sz := 5) (p := 0) (j := 0) (es := [[.x (.int .i64 a24.Depth), .x (.int .i64 a24.Rule), .x (.int .i64 a24.Token), .x (.int .i64 a24.from_), .x (.int .i64 a24.to_)]]) (e := [.x (.int .i64 a24.Depth), .x (.int .i64 a24.Rule), .x (.int .i64 a24.Token), .x (.int .i64 a24.from_), .x (.int .i64 a24.to_)]) 2 (by kernel_rfl) (by kernel_rfl) (by kernel_rfl) (by kernel_rfl) (by kernel_rfl) (by kernel_rfl) ?_
        refine JS.bind fun r28 h29 => ?_
        refine JS.callS [] (tree_word_ok k (⟨a24.Depth, a24.Rule, a24.Token, a24.from_, a24.to_⟩ : NodeT) r28 h29) ⟨rfl, argG (vs := [.x (.int .i64 a24.Depth), .x (.int .i64 a24.Rule), .x (.int .i64 a24.Token), .x (.int .i64 a24.from_), .x (.int .i64 a24.to_)]) (by kernel_rfl) (by kernel_rfl), trivial⟩ (by kernel_rfl) (by kernel_rfl) (by kernel_rfl) ?_
        refine JS.run 5 (by kernel_rfl) ?_
        refine JS.nil ?_
        refine JC.to2 [(0, .c 1 (.lst 5 (a0.map NodeT.D))), (3, .ref o14 0 x13.length), (4, .ref o16 0 x15.length), (5, .x (.int .i64 x12)), (6, .ptr id26 5 0 0), (8, .x (.bool r28.2)), (22, .c 1 (.lst 5 (a0.map NodeT.D))), (23, .x (.int .i64 ((a0.length : Nat) : Int))), (24, .x (.int .i64 x12))] [⟨o14, 1, vl (iD .i64) x13⟩, ⟨o16, 1, vl (iD .i64) x15⟩, ⟨(some id26), 5, [[.x (.int .i64 a24.Depth), .x (.int .i64 a24.Rule), .x (.int .i64 a24.Token), .x (.int .i64 a24.from_), .x (.int .i64 a24.to_)]]⟩] (by kernel_rfl) (by kernel_rfl) ?_
        refine JC.skipT ?_
        refine JC.seq ?_
        refine JC.seq ?_
        refine JC.bind (A := fun v ex E R => ex = .normal ∧ E = [(0, .c 1 (.lst 5 (a0.map NodeT.D))), (3, .ref o14 0 x13.length), (4, .ref o16 0 x15.length), (5, .x (.int .i64 x12)), (6, .ptr id26 5 0 0), (22, .c 1 (.lst 5 (a0.map NodeT.D))), (23, .x (.int .i64 ((a0.length : Nat) : Int))), (24, .x (.int .i64 x12)), (63, .x (.bool v))] ∧ R = [⟨o14, 1, vl (iD .i64) x13⟩, ⟨o16, 1, vl (iD .i64) x15⟩, ⟨(some id26), 5, [[.x (.int .i64 a24.Depth), .x (.int .i64 a24.Rule), .x (.int .i64 a24.Token), .x (.int .i64 a24.from_), .x (.int .i64 a24.to_)]]⟩]) ?_ ?_
        · refine JC.region fun b31 => ?_
          refine JS.run 3 (by kernel_rfl) ?_
          refine JS.split (e := (!r28.2)) 36 (by kernel_rfl) (fun h32 => ?_) (fun h32 => ?_)
          · refine JS.run 27 (by kernel_rfl) ?_
            refine JS.nil ?_
            refine JC.to2 [(0, .c 1 (.lst 5 (a0.map NodeT.D))), (3, .ref o14 0 x13.length), (4, .ref o16 0 x15.length), (5, .x (.int .i64 x12)), (6, .ptr id26 5 0 0), (22, .c 1 (.lst 5 (a0.map NodeT.D))), (23, .x (.int .i64 ((a0.length : Nat) : Int))), (24, .x (.int .i64 x12)), (63, .x (.bool true))] [⟨o14, 1, vl (iD .i64) x13⟩, ⟨o16, 1, vl (iD .i64) x15⟩, ⟨(some id26), 5, [[.x (.int .i64 a24.Depth), .x (.int .i64 a24.Rule), .x (.int .i64 a24.Token), .x (.int .i64 a24.from_), .x (.int .i64 a24.to_)]]⟩] (by kernel_rfl) (by kernel_rfl) ?_
            refine JC.to2 [(0, .c 1 (.lst 5 (a0.map NodeT.D))), (3, .ref o14 0 x13.length), (4, .ref o16 0 x15.length), (5, .x (.int .i64 x12)), (6, .ptr id26 5 0 0), (22, .c 1 (.lst 5 (a0.map NodeT.D))), (23, .x (.int .i64 ((a0.length : Nat) : Int))), (24, .x (.int .i64 x12)), (63, .x (.bool true))] [⟨o14, 1, vl (iD .i64) x13⟩, ⟨o16, 1, vl (iD .i64) x15⟩, ⟨(some id26), 5, [[.x (.int .i64 a24.Depth), .x (.int .i64 a24.Rule), .x (.int .i64 a24.Token), .x (.int .i64 a24.from_), .x (.int .i64 a24.to_)]]⟩] (by kernel_rfl) (by kernel_rfl) ?_
            exact JC.got (ex := .normal) rfl ⟨rfl, rfl, rfl⟩
          · refine JS.run 1 (by kernel_rfl) ?_
            refine JS.loadO (id := id26) (sz := 5) (p := 0) (j := 3) (es := [[.x (.int .i64 a24.Depth), .x (.int .i64 a24.Rule), .x (.int .i64 a24.Token), .x (.int .i64 a24.from_), .x (.int .i64 a24.to_)]]) (e := [.x (.int .i64 a24.Depth), .x (.int .i64 a24.Rule), .x (.int .i64 a24.Token), .x (.int .i64 a24.from_), .x (.int .i64 a24.to_)]) 2 (by kernel_rfl) (by kernel_rfl) (by kernel_rfl) (by kernel_rfl) (by kernel_rfl) (by kernel_rfl) ?_
            refine JS.run 1 (by kernel_rfl) ?_
            refine JS.loadO (id := id26) (sz := 5) (p := 0) (j := 4) (es := [[.x (.int .i64 a24.Depth), .x (.int .i64 a24.Rule), .x (.int .i64 a24.Token), .x (.int .i64 a24.from_), .x (.int .i64 a24.to_)]]) (e := [.x (.int .i64 a24.Depth), .x (.int .i64 a24.Rule), .x (.int .i64 a24.Token), .x (.int .i64 a24.from_), .x (.int .i64 a24.to_)]) 2 (by kernel_rfl) (by kernel_rfl) (by kernel_rfl) (by kernel_rfl) (by kernel_rfl) (by kernel_rfl) ?_
            refine JS.run 3 (by kernel_rfl) ?_
            refine JS.split (e := (decide (a24.from_ > a24.to_))) 43 (by kernel_rfl) (fun h33 => ?_) (fun h33 => ?_)
            · refine JS.run 20 (by kernel_rfl) ?_
              refine JS.nil ?_
              refine JC.to2 [(0, .c 1 (.lst 5 (a0.map NodeT.D))), (3, .ref o14 0 x13.length), (4, .ref o16 0 x15.length), (5, .x (.int .i64 x12)), (6, .ptr id26 5 0 0), (22, .c 1 (.lst 5 (a0.map NodeT.D))), (23, .x (.int .i64 ((a0.length : Nat) : Int))), (24, .x (.int .i64 x12)), (63, .x (.bool true))] [⟨o14, 1, vl (iD .i64) x13⟩, ⟨o16, 1, vl (iD .i64) x15⟩, ⟨(some id26), 5, [[.x (.int .i64 a24.Depth), .x (.int .i64 a24.Rule), .x (.int .i64 a24.Token), .x (.int .i64 a24.from_), .x (.int .i64 a24.to_)]]⟩] (by kernel_rfl) (by kernel_rfl) ?_
              refine JC.to2 [(0, .c 1 (.lst 5 (a0.map NodeT.D))), (3, .ref o14 0 x13.length), (4, .ref o16 0 x15.length), (5, .x (.int .i64 x12)), (6, .ptr id26 5 0 0), (22, .c 1 (.lst 5 (a0.map NodeT.D))), (23, .x (.int .i64 ((a0.length : Nat) : Int))), (24, .x (.int .i64 x12)), (63, .x (.bool true))] [⟨o14, 1, vl (iD .i64) x13⟩, ⟨o16, 1, vl (iD .i64) x15⟩, ⟨(some id26), 5, [[.x (.int .i64 a24.Depth), .x (.int .i64 a24.Rule), .x (.int .i64 a24.Token), .x (.int .i64 a24.from_), .x (.int .i64 a24.to_)]]⟩] (by kernel_rfl) (by kernel_rfl) ?_
              exact JC.got (ex := .normal) rfl ⟨rfl, rfl, rfl⟩
            · refine JS.run 3 (by kernel_rfl) ?_
              refine JS.split (e := (decide (x12 > (0 : Int)))) 46 (by kernel_rfl) (fun h34 => ?_) (fun h34 => ?_)
              · refine JS.run 1 (by kernel_rfl) ?_
                refine JS.loadO (id := id26) (sz := 5) (p := 0) (j := 0) (es := [[.x (.int .i64 a24.Depth), .x (.int .i64 a24.Rule), .x (.int .i64 a24.Token), .x (.int .i64 a24.from_), .x (.int .i64 a24.to_)]]) (e := [.x (.int .i64 a24.Depth), .x (.int .i64 a24.Rule), .x (.int .i64 a24.Token), .x (.int .i64 a24.from_), .x (.int .i64 a24.to_)]) 2 (by kernel_rfl) (by kernel_rfl) (by kernel_rfl) (by kernel_rfl) (by kernel_rfl) (by kernel_rfl) ?_
                refine JS.run 2 (by kernel_rfl) ?_
                refine JS.split (e := (decide (a24.Depth < (1 : Int)))) 50 (by kernel_rfl) (fun h35 => ?_) (fun h35 => ?_)
                · refine JS.run 13 (by kernel_rfl) ?_
                  refine JS.nil ?_
                  refine JC.to2 [(0, .c 1 (.lst 5 (a0.map NodeT.D))), (3, .ref o14 0 x13.length), (4, .ref o16 0 x15.length), (5, .x (.int .i64 x12)), (6, .ptr id26 5 0 0), (22, .c 1 (.lst 5 (a0.map NodeT.D))), (23, .x (.int .i64 ((a0.length : Nat) : Int))), (24, .x (.int .i64 x12)), (63, .x (.bool true))] [⟨o14, 1, vl (iD .i64) x13⟩, ⟨o16, 1, vl (iD .i64) x15⟩, ⟨(some id26), 5, [[.x (.int .i64 a24.Depth), .x (.int .i64 a24.Rule), .x (.int .i64 a24.Token), .x (.int .i64 a24.from_), .x (.int .i64 a24.to_)]]⟩] (by kernel_rfl) (by kernel_rfl) ?_
                  refine JC.to2 [(0, .c 1 (.lst 5 (a0.map NodeT.D))), (3, .ref o14 0 x13.length), (4, .ref o16 0 x15.length), (5, .x (.int .i64 x12)), (6, .ptr id26 5 0 0), (22, .c 1 (.lst 5 (a0.map NodeT.D))), (23, .x (.int .i64 ((a0.length : Nat) : Int))), (24, .x (.int .i64 x12)), (63, .x (.bool true))] [⟨o14, 1, vl (iD .i64) x13⟩, ⟨o16, 1, vl (iD .i64) x15⟩, ⟨(some id26), 5, [[.x (.int .i64 a24.Depth), .x (.int .i64 a24.Rule), .x (.int .i64 a24.Token), .x (.int .i64 a24.from_), .x (.int .i64 a24.to_)]]⟩] (by kernel_rfl) (by kernel_rfl) ?_
                  exact JC.got (ex := .normal) rfl ⟨rfl, rfl, rfl⟩
                · refine JS.run 1 (by kernel_rfl) ?_
                  refine JS.loadO (id := id26) (sz := 5) (p := 0) (j := 0) (es := [[.x (.int .i64 a24.Depth), .x (.int .i64 a24.Rule), .x (.int .i64 a24.Token), .x (.int .i64 a24.from_), .x (.int .i64 a24.to_)]]) (e := [.x (.int .i64 a24.Depth), .x (.int .i64 a24.Rule), .x (.int .i64 a24.Token), .x (.int .i64 a24.from_), .x (.int .i64 a24.to_)]) 2 (by kernel_rfl) (by kernel_rfl) (by kernel_rfl) (by kernel_rfl) (by kernel_rfl) (by kernel_rfl) ?_
                  refine JS.run 3 (by kernel_rfl) ?_
                  refine JS.idxC (c := NodeT.D) (l := a0) (n := 1) (kk := .i64) (z := (IntKind.i64.wrap (x12 - (1 : Int)))) (by kernel_rfl) (by kernel_rfl) (by kernel_rfl) (by kernel_rfl) (fun a36 h37 => ?_)
                  refine JS.run 7 (by kernel_rfl) ?_
                  refine JS.nil ?_
                  refine JC.to2 [(0, .c 1 (.lst 5 (a0.map NodeT.D))), (3, .ref o14 0 x13.length), (4, .ref o16 0 x15.length), (5, .x (.int .i64 x12)), (6, .ptr id26 5 0 0), (22, .c 1 (.lst 5 (a0.map NodeT.D))), (23, .x (.int .i64 ((a0.length : Nat) : Int))), (24, .x (.int .i64 x12)), (63, .x (.bool (decide (a24.Depth > (IntKind.i64.wrap (a36.Depth + (1 : Int)))))))] [⟨o14, 1, vl (iD .i64) x13⟩, ⟨o16, 1, vl (iD .i64) x15⟩, ⟨(some id26), 5, [[.x (.int .i64 a24.Depth), .x (.int .i64 a24.Rule), .x (.int .i64 a24.Token), .x (.int .i64 a24.from_), .x (.int .i64 a24.to_)]]⟩] (by kernel_rfl) (by kernel_rfl) ?_
                  refine JC.to2 [(0, .c 1 (.lst 5 (a0.map NodeT.D))), (3, .ref o14 0 x13.length), (4, .ref o16 0 x15.length), (5, .x (.int .i64 x12)), (6, .ptr id26 5 0 0), (22, .c 1 (.lst 5 (a0.map NodeT.D))), (23, .x (.int .i64 ((a0.length : Nat) : Int))), (24, .x (.int .i64 x12)), (63, .x (.bool (decide (a24.Depth > (IntKind.i64.wrap (a36.Depth + (1 : Int)))))))] [⟨o14, 1, vl (iD .i64) x13⟩, ⟨o16, 1, vl (iD .i64) x15⟩, ⟨(some id26), 5, [[.x (.int .i64 a24.Depth), .x (.int .i64 a24.Rule), .x (.int .i64 a24.Token), .x (.int .i64 a24.from_), .x (.int .i64 a24.to_)]]⟩] (by kernel_rfl) (by kernel_rfl) ?_
                  exact JC.got (ex := .normal) rfl ⟨rfl, rfl, rfl⟩
              · refine JS.run 17 (by kernel_rfl) ?_
                refine JS.nil ?_
                refine JC.to2 [(0, .c 1 (.lst 5 (a0.map NodeT.D))), (3, .ref o14 0 x13.length), (4, .ref o16 0 x15.length), (5, .x (.int .i64 x12)), (6, .ptr id26 5 0 0), (22, .c 1 (.lst 5 (a0.map NodeT.D))), (23, .x (.int .i64 ((a0.length : Nat) : Int))), (24, .x (.int .i64 x12)), (63, .x (.bool false))] [⟨o14, 1, vl (iD .i64) x13⟩, ⟨o16, 1, vl (iD .i64) x15⟩, ⟨(some id26), 5, [[.x (.int .i64 a24.Depth), .x (.int .i64 a24.Rule), .x (.int .i64 a24.Token), .x (.int .i64 a24.from_), .x (.int .i64 a24.to_)]]⟩] (by kernel_rfl) (by kernel_rfl) ?_
                refine JC.to2 [(0, .c 1 (.lst 5 (a0.map NodeT.D))), (3, .ref o14 0 x13.length), (4, .ref o16 0 x15.length), (5, .x (.int .i64 x12)), (6, .ptr id26 5 0 0), (22, .c 1 (.lst 5 (a0.map NodeT.D))), (23, .x (.int .i64 ((a0.length : Nat) : Int))), (24, .x (.int .i64 x12)), (63, .x (.bool false))] [⟨o14, 1, vl (iD .i64) x13⟩, ⟨o16, 1, vl (iD .i64) x15⟩, ⟨(some id26), 5, [[.x (.int .i64 a24.Depth), .x (.int .i64 a24.Rule), .x (.int .i64 a24.Token), .x (.int .i64 a24.from_), .x (.int .i64 a24.to_)]]⟩] (by kernel_rfl) (by kernel_rfl) ?_
                exact JC.got (ex := .normal) rfl ⟨rfl, rfl, rfl⟩
        · rintro y30 ex E' R' hA
          obtain ⟨rfl, rfl, rfl⟩ := hA
          refine JC.to2 [(0, .c 1 (.lst 5 (a0.map NodeT.D))), (3, .ref o14 0 x13.length), (4, .ref o16 0 x15.length), (5, .x (.int .i64 x12)), (6, .ptr id26 5 0 0), (22, .c 1 (.lst 5 (a0.map NodeT.D))), (23, .x (.int .i64 ((a0.length : Nat) : Int))), (24, .x (.int .i64 x12)), (63, .x (.bool y30))] [⟨o14, 1, vl (iD .i64) x13⟩, ⟨o16, 1, vl (iD .i64) x15⟩, ⟨(some id26), 5, [[.x (.int .i64 a24.Depth), .x (.int .i64 a24.Rule), .x (.int .i64 a24.Token), .x (.int .i64 a24.from_), .x (.int .i64 a24.to_)]]⟩] (by kernel_rfl) (by kernel_rfl) ?_
          refine JC.skipT ?_
          refine JC.cond (e := y30) (by kernel_rfl) (fun h38 => ?_) (fun h38 => ?_)
          · refine JC.seq ?_
            refine JC.region fun b39 => ?_
            refine JS.run 1 (by kernel_rfl) ?_
            refine JS.nil ?_
            refine JC.drop 2 ?_
            refine JC.drop 1 ?_
            refine JC.drop 0 ?_
            refine JC.to2 [(2, .x (.bool false))] [] (by kernel_rfl) (by kernel_rfl) ?_
            refine JC.skipT ?_
            refine JC.retT ?_
            refine JC.retB ?_
            refine JC.to2 [(2, .x (.bool false))] [] (by kernel_rfl) (by kernel_rfl) ?_
            exact JC.got (ex := .ret) rfl ⟨rfl, rfl, rfl⟩
          · refine JC.skipT ?_
            refine JC.seq ?_
            refine JC.region fun b40 => ?_
            refine JS.run 2 (by kernel_rfl) ?_
            refine JS.loadO (id := id26) (sz := 5) (p := 0) (j := 0) (es := [[.x (.int .i64 a24.Depth), .x (.int .i64 a24.Rule), .x (.int .i64 a24.Token), .x (.int .i64 a24.from_), .x (.int .i64 a24.to_)]]) (e := [.x (.int .i64 a24.Depth), .x (.int .i64 a24.Rule), .x (.int .i64 a24.Token), .x (.int .i64 a24.from_), .x (.int .i64 a24.to_)]) 2 (by kernel_rfl) (by kernel_rfl) (by kernel_rfl) (by kernel_rfl) (by kernel_rfl) (by kernel_rfl) ?_
            refine JS.sliceO_hi (o := o14) (off := 0) (len := x13.length) (es := vl (iD .i64) x13) (kk := .i64) (z := a24.Depth) 0 (by kernel_rfl) (by kernel_rfl) (by kernel_rfl) (by kernel_rfl) (by kernel_rfl) (fun p41 h42 => ?_)
            refine JS.run 2 (by kernel_rfl) ?_
            refine JS.loadO (id := id26) (sz := 5) (p := 0) (j := 0) (es := [[.x (.int .i64 a24.Depth), .x (.int .i64 a24.Rule), .x (.int .i64 a24.Token), .x (.int .i64 a24.from_), .x (.int .i64 a24.to_)]]) (e := [.x (.int .i64 a24.Depth), .x (.int .i64 a24.Rule), .x (.int .i64 a24.Token), .x (.int .i64 a24.from_), .x (.int .i64 a24.to_)]) 2 (by kernel_rfl) (by kernel_rfl) (by kernel_rfl) (by kernel_rfl) (by kernel_rfl) (by kernel_rfl) ?_
            refine JS.sliceO_hi (o := o16) (off := 0) (len := x15.length) (es := vl (iD .i64) x15) (kk := .i64) (z := a24.Depth) 1 (by kernel_rfl) (by kernel_rfl) (by kernel_rfl) (by kernel_rfl) (by kernel_rfl) (fun p43 h44 => ?_)
            refine JS.run 2 (by kernel_rfl) ?_
            refine JS.nil ?_
            refine JC.to2 [(0, .c 1 (.lst 5 (a0.map NodeT.D))), (3, .ref o14 0 p41), (4, .ref o16 0 p43), (5, .x (.int .i64 x12)), (6, .ptr id26 5 0 0), (22, .c 1 (.lst 5 (a0.map NodeT.D))), (23, .x (.int .i64 ((a0.length : Nat) : Int))), (24, .x (.int .i64 x12))] [⟨o14, 1, vl (iD .i64) x13⟩, ⟨o16, 1, vl (iD .i64) x15⟩, ⟨(some id26), 5, [[.x (.int .i64 a24.Depth), .x (.int .i64 a24.Rule), .x (.int .i64 a24.Token), .x (.int .i64 a24.from_), .x (.int .i64 a24.to_)]]⟩] (by kernel_rfl) (by kernel_rfl) ?_
            refine JC.skipT ?_
            refine JC.seq ?_
            refine JC.seq ?_
            refine JC.region fun b45 => ?_
            refine JS.run 2 (by kernel_rfl) ?_
            refine JS.nil ?_
            refine JC.to2 [(0, .c 1 (.lst 5 (a0.map NodeT.D))), (3, .ref o14 0 p41), (4, .ref o16 0 p43), (5, .x (.int .i64 x12)), (6, .ptr id26 5 0 0), (22, .c 1 (.lst 5 (a0.map NodeT.D))), (23, .x (.int .i64 ((a0.length : Nat) : Int))), (24, .x (.int .i64 x12)), (73, .x (.bool (decide (x12 > (0 : Int)))))] [⟨o14, 1, vl (iD .i64) x13⟩, ⟨o16, 1, vl (iD .i64) x15⟩, ⟨(some id26), 5, [[.x (.int .i64 a24.Depth), .x (.int .i64 a24.Rule), .x (.int .i64 a24.Token), .x (.int .i64 a24.from_), .x (.int .i64 a24.to_)]]⟩] (by kernel_rfl) (by kernel_rfl) ?_
            refine JC.skipT ?_
            refine JC.cond (e := (decide (x12 > (0 : Int)))) (by kernel_rfl) (fun h46 => ?_) (fun h46 => ?_)
            · refine JC.seq ?_
              refine JC.region fun b47 => ?_
              refine JS.run 3 (by kernel_rfl) ?_
              refine JS.loadO (id := id26) (sz := 5) (p := 0) (j := 0) (es := [[.x (.int .i64 a24.Depth), .x (.int .i64 a24.Rule), .x (.int .i64 a24.Token), .x (.int .i64 a24.from_), .x (.int .i64 a24.to_)]]) (e := [.x (.int .i64 a24.Depth), .x (.int .i64 a24.Rule), .x (.int .i64 a24.Token), .x (.int .i64 a24.from_), .x (.int .i64 a24.to_)]) 2 (by kernel_rfl) (by kernel_rfl) (by kernel_rfl) (by kernel_rfl) (by kernel_rfl) (by kernel_rfl) ?_
              refine JS.run 1 (by kernel_rfl) ?_
              refine JS.idxW (c := (iD .i64)) (l := x13) (o := o14) (off := 0) (len := p41) (kk := .i64) (z := (IntKind.i64.wrap (a24.Depth - (1 : Int)))) 0 (by kernel_rfl) (by kernel_rfl) (by kernel_rfl) (by kernel_rfl) (by kernel_rfl) (fun id50 a48 e51 h49 => ?_)
              subst e51
              refine JS.loadO (id := id50) (sz := 1) (p := (0 + (IntKind.i64.wrap (a24.Depth - (1 : Int))).toNat)) (j := 0) (es := (vl (iD .i64) x13)) (e := (cv (iD .i64) a48)) 0 (by kernel_rfl) (vl_get h49) (by kernel_rfl) (by kernel_rfl) (by kernel_rfl) (by kernel_rfl) ?_
              refine JS.idxC (c := NodeT.D) (l := a0) (n := 1) (kk := .i64) (z := a48) (by kernel_rfl) (by kernel_rfl) (by kernel_rfl) (by kernel_rfl) (fun a52 h53 => ?_)
              refine JS.run 1 (by kernel_rfl) ?_
              refine JS.alloc (by kernel_rfl) (by kernel_rfl) (by kernel_rfl) (fun id54 => ?_)
              refine JS.storeO (id := id54) (sz := 5) (p := 0) (j := 0) (es := [[.x (.int .i64 (0 : Int)), .x (.int .i64 (0 : Int)), .x (.int .i64 (0 : Int)), .x (.int .i64 (0 : Int)), .x (.int .i64 (0 : Int))]]) (es2 := [[.x (.int .i64 a52.Depth), .x (.int .i64 a52.Rule), .x (.int .i64 a52.Token), .x (.int .i64 a52.from_), .x (.int .i64 a52.to_)]]) (e := [.x (.int .i64 (0 : Int)), .x (.int .i64 (0 : Int)), .x (.int .i64 (0 : Int)), .x (.int .i64 (0 : Int)), .x (.int .i64 (0 : Int))]) (w := .agg [.x (.int .i64 a52.Depth), .x (.int .i64 a52.Rule), .x (.int .i64 a52.Token), .x (.int .i64 a52.from_), .x (.int .i64 a52.to_)]) 3 (by kernel_rfl) (by kernel_rfl) (by kernel_rfl) (by kernel_rfl) (by kernel_rfl) (by kernel_rfl) (by kernel_rfl) ?_
              refine JS.nil ?_
              refine JC.to2 [(0, .c 1 (.lst 5 (a0.map NodeT.D))), (3, .ref (some id50) 0 p41), (4, .ref o16 0 p43), (5, .x (.int .i64 x12)), (6, .ptr id26 5 0 0), (9, .ptr id54 5 0 0), (22, .c 1 (.lst 5 (a0.map NodeT.D))), (23, .x (.int .i64 ((a0.length : Nat) : Int))), (24, .x (.int .i64 x12))] [⟨(some id50), 1, vl (iD .i64) x13⟩, ⟨o16, 1, vl (iD .i64) x15⟩, ⟨(some id26), 5, [[.x (.int .i64 a24.Depth), .x (.int .i64 a24.Rule), .x (.int .i64 a24.Token), .x (.int .i64 a24.from_), .x (.int .i64 a24.to_)]]⟩, ⟨(some id54), 5, [[.x (.int .i64 a52.Depth), .x (.int .i64 a52.Rule), .x (.int .i64 a52.Token), .x (.int .i64 a52.from_), .x (.int .i64 a52.to_)]]⟩] (by kernel_rfl) (by kernel_rfl) ?_
              refine JC.skipT ?_
              refine JC.seq ?_
              refine JC.seq ?_
              refine JC.region fun b55 => ?_
              refine JS.loadO (id := id54) (sz := 5) (p := 0) (j := 0) (es := [[.x (.int .i64 a52.Depth), .x (.int .i64 a52.Rule), .x (.int .i64 a52.Token), .x (.int .i64 a52.from_), .x (.int .i64 a52.to_)]]) (e := [.x (.int .i64 a52.Depth), .x (.int .i64 a52.Rule), .x (.int .i64 a52.Token), .x (.int .i64 a52.from_), .x (.int .i64 a52.to_)]) 3 (by kernel_rfl) (by kernel_rfl) (by kernel_rfl) (by kernel_rfl) (by kernel_rfl) (by kernel_rfl) ?_
              refine JS.bind fun r56 h57 => ?_
              refine JS.callS [] (tree_word_ok k (⟨a52.Depth, a52.Rule, a52.Token, a52.from_, a52.to_⟩ : NodeT) r56 h57) ⟨rfl, argG (vs := [.x (.int .i64 a52.Depth), .x (.int .i64 a52.Rule), .x (.int .i64 a52.Token), .x (.int .i64 a52.from_), .x (.int .i64 a52.to_)]) (by kernel_rfl) (by kernel_rfl), trivial⟩ (by kernel_rfl) (by kernel_rfl) (by kernel_rfl) ?_
              refine JS.run 5 (by kernel_rfl) ?_
              refine JS.nil ?_
              refine JC.to2 [(0, .c 1 (.lst 5 (a0.map NodeT.D))), (3, .ref (some id50) 0 p41), (4, .ref o16 0 p43), (5, .x (.int .i64 x12)), (6, .ptr id26 5 0 0), (9, .ptr id54 5 0 0), (10, .x (.bool r56.1)), (22, .c 1 (.lst 5 (a0.map NodeT.D))), (23, .x (.int .i64 ((a0.length : Nat) : Int))), (24, .x (.int .i64 x12))] [⟨(some id50), 1, vl (iD .i64) x13⟩, ⟨o16, 1, vl (iD .i64) x15⟩, ⟨(some id26), 5, [[.x (.int .i64 a24.Depth), .x (.int .i64 a24.Rule), .x (.int .i64 a24.Token), .x (.int .i64 a24.from_), .x (.int .i64 a24.to_)]]⟩, ⟨(some id54), 5, [[.x (.int .i64 a52.Depth), .x (.int .i64 a52.Rule), .x (.int .i64 a52.Token), .x (.int .i64 a52.from_), .x (.int .i64 a52.to_)]]⟩] (by kernel_rfl) (by kernel_rfl) ?_
              refine JC.skipT ?_
              refine JC.seq ?_
              refine JC.region fun b58 => ?_
              refine JS.run 2 (by kernel_rfl) ?_
              refine JS.split (e := r56.1) 89 (by kernel_rfl) (fun h59 => ?_) (fun h59 => ?_)
              · refine JS.run 17 (by kernel_rfl) ?_
                refine JS.nil ?_
                refine JC.drop 3 ?_
                refine JC.to2 [(0, .c 1 (.lst 5 (a0.map NodeT.D))), (3, .ref (some id50) 0 p41), (4, .ref o16 0 p43), (5, .x (.int .i64 x12)), (6, .ptr id26 5 0 0), (22, .c 1 (.lst 5 (a0.map NodeT.D))), (23, .x (.int .i64 ((a0.length : Nat) : Int))), (24, .x (.int .i64 x12)), (106, .x (.bool true))] [⟨(some id50), 1, vl (iD .i64) x13⟩, ⟨o16, 1, vl (iD .i64) x15⟩, ⟨(some id26), 5, [[.x (.int .i64 a24.Depth), .x (.int .i64 a24.Rule), .x (.int .i64 a24.Token), .x (.int .i64 a24.from_), .x (.int .i64 a24.to_)]]⟩] (by kernel_rfl) (by kernel_rfl) ?_
                refine JC.skipT ?_
                refine JC.condT (by kernel_rfl) ?_
                refine JC.seq ?_
                refine JC.region fun b60 => ?_
                refine JS.run 1 (by kernel_rfl) ?_
                refine JS.nil ?_
                refine JC.drop 2 ?_
                refine JC.drop 1 ?_
                refine JC.drop 0 ?_
                refine JC.to2 [(2, .x (.bool false))] [] (by kernel_rfl) (by kernel_rfl) ?_
                refine JC.skipT ?_
                refine JC.retT ?_
                refine JC.retT ?_
                refine JC.retB ?_
                refine JC.to2 [(2, .x (.bool false))] [] (by kernel_rfl) (by kernel_rfl) ?_
                exact JC.got (ex := .ret) rfl ⟨rfl, rfl, rfl⟩
              · refine JS.run 1 (by kernel_rfl) ?_
                refine JS.loadO (id := id26) (sz := 5) (p := 0) (j := 3) (es := [[.x (.int .i64 a24.Depth), .x (.int .i64 a24.Rule), .x (.int .i64 a24.Token), .x (.int .i64 a24.from_), .x (.int .i64 a24.to_)]]) (e := [.x (.int .i64 a24.Depth), .x (.int .i64 a24.Rule), .x (.int .i64 a24.Token), .x (.int .i64 a24.from_), .x (.int .i64 a24.to_)]) 2 (by kernel_rfl) (by kernel_rfl) (by kernel_rfl) (by kernel_rfl) (by kernel_rfl) (by kernel_rfl) ?_
                refine JS.run 2 (by kernel_rfl) ?_
                refine JS.loadO (id := id26) (sz := 5) (p := 0) (j := 0) (es := [[.x (.int .i64 a24.Depth), .x (.int .i64 a24.Rule), .x (.int .i64 a24.Token), .x (.int .i64 a24.from_), .x (.int .i64 a24.to_)]]) (e := [.x (.int .i64 a24.Depth), .x (.int .i64 a24.Rule), .x (.int .i64 a24.Token), .x (.int .i64 a24.from_), .x (.int .i64 a24.to_)]) 2 (by kernel_rfl) (by kernel_rfl) (by kernel_rfl) (by kernel_rfl) (by kernel_rfl) (by kernel_rfl) ?_
                refine JS.run 1 (by kernel_rfl) ?_
                refine JS.idxW (c := (iD .i64)) (l := x15) (o := o16) (off := 0) (len := p43) (kk := .i64) (z := (IntKind.i64.wrap (a24.Depth - (1 : Int)))) 1 (by kernel_rfl) (by kernel_rfl) (by kernel_rfl) (by kernel_rfl) (by kernel_rfl) (fun id63 a61 e64 h62 => ?_)
                subst e64
                refine JS.loadO (id := id63) (sz := 1) (p := (0 + (IntKind.i64.wrap (a24.Depth - (1 : Int))).toNat)) (j := 0) (es := (vl (iD .i64) x15)) (e := (cv (iD .i64) a61)) 1 (by kernel_rfl) (vl_get h62) (by kernel_rfl) (by kernel_rfl) (by kernel_rfl) (by kernel_rfl) ?_
                refine JS.run 3 (by kernel_rfl) ?_
                refine JS.split (e := (decide (a24.from_ < a61))) 100 (by kernel_rfl) (fun h65 => ?_) (fun h65 => ?_)
                · refine JS.run 6 (by kernel_rfl) ?_
                  refine JS.nil ?_
                  refine JC.drop 3 ?_
                  refine JC.to2 [(0, .c 1 (.lst 5 (a0.map NodeT.D))), (3, .ref (some id50) 0 p41), (4, .ref (some id63) 0 p43), (5, .x (.int .i64 x12)), (6, .ptr id26 5 0 0), (22, .c 1 (.lst 5 (a0.map NodeT.D))), (23, .x (.int .i64 ((a0.length : Nat) : Int))), (24, .x (.int .i64 x12)), (106, .x (.bool true))] [⟨(some id50), 1, vl (iD .i64) x13⟩, ⟨(some id63), 1, vl (iD .i64) x15⟩, ⟨(some id26), 5, [[.x (.int .i64 a24.Depth), .x (.int .i64 a24.Rule), .x (.int .i64 a24.Token), .x (.int .i64 a24.from_), .x (.int .i64 a24.to_)]]⟩] (by kernel_rfl) (by kernel_rfl) ?_
                  refine JC.skipT ?_
                  refine JC.condT (by kernel_rfl) ?_
                  refine JC.seq ?_
                  refine JC.region fun b66 => ?_
                  refine JS.run 1 (by kernel_rfl) ?_
                  refine JS.nil ?_
                  refine JC.drop 2 ?_
                  refine JC.drop 1 ?_
                  refine JC.drop 0 ?_
                  refine JC.to2 [(2, .x (.bool false))] [] (by kernel_rfl) (by kernel_rfl) ?_
                  refine JC.skipT ?_
                  refine JC.retT ?_
                  refine JC.retT ?_
                  refine JC.retB ?_
                  refine JC.to2 [(2, .x (.bool false))] [] (by kernel_rfl) (by kernel_rfl) ?_
                  exact JC.got (ex := .ret) rfl ⟨rfl, rfl, rfl⟩
                · refine JS.run 1 (by kernel_rfl) ?_
                  refine JS.loadO (id := id26) (sz := 5) (p := 0) (j := 4) (es := [[.x (.int .i64 a24.Depth), .x (.int .i64 a24.Rule), .x (.int .i64 a24.Token), .x (.int .i64 a24.from_), .x (.int .i64 a24.to_)]]) (e := [.x (.int .i64 a24.Depth), .x (.int .i64 a24.Rule), .x (.int .i64 a24.Token), .x (.int .i64 a24.from_), .x (.int .i64 a24.to_)]) 2 (by kernel_rfl) (by kernel_rfl) (by kernel_rfl) (by kernel_rfl) (by kernel_rfl) (by kernel_rfl) ?_
                  refine JS.run 1 (by kernel_rfl) ?_
                  refine JS.loadO (id := id54) (sz := 5) (p := 0) (j := 4) (es := [[.x (.int .i64 a52.Depth), .x (.int .i64 a52.Rule), .x (.int .i64 a52.Token), .x (.int .i64 a52.from_), .x (.int .i64 a52.to_)]]) (e := [.x (.int .i64 a52.Depth), .x (.int .i64 a52.Rule), .x (.int .i64 a52.Token), .x (.int .i64 a52.from_), .x (.int .i64 a52.to_)]) 3 (by kernel_rfl) (by kernel_rfl) (by kernel_rfl) (by kernel_rfl) (by kernel_rfl) (by kernel_rfl) ?_
                  refine JS.run 2 (by kernel_rfl) ?_
                  refine JS.nil ?_
                  refine JC.drop 3 ?_
                  refine JC.to2 [(0, .c 1 (.lst 5 (a0.map NodeT.D))), (3, .ref (some id50) 0 p41), (4, .ref (some id63) 0 p43), (5, .x (.int .i64 x12)), (6, .ptr id26 5 0 0), (22, .c 1 (.lst 5 (a0.map NodeT.D))), (23, .x (.int .i64 ((a0.length : Nat) : Int))), (24, .x (.int .i64 x12)), (106, .x (.bool (decide (a24.to_ > a52.to_))))] [⟨(some id50), 1, vl (iD .i64) x13⟩, ⟨(some id63), 1, vl (iD .i64) x15⟩, ⟨(some id26), 5, [[.x (.int .i64 a24.Depth), .x (.int .i64 a24.Rule), .x (.int .i64 a24.Token), .x (.int .i64 a24.from_), .x (.int .i64 a24.to_)]]⟩] (by kernel_rfl) (by kernel_rfl) ?_
                  refine JC.skipT ?_
                  refine JC.cond (e := (decide (a24.to_ > a52.to_))) (by kernel_rfl) (fun h67 => ?_) (fun h67 => ?_)
                  · refine JC.seq ?_
                    refine JC.region fun b68 => ?_
                    refine JS.run 1 (by kernel_rfl) ?_
                    refine JS.nil ?_
                    refine JC.drop 2 ?_
                    refine JC.drop 1 ?_
                    refine JC.drop 0 ?_
                    refine JC.to2 [(2, .x (.bool false))] [] (by kernel_rfl) (by kernel_rfl) ?_
                    refine JC.skipT ?_
                    refine JC.retT ?_
                    refine JC.retT ?_
                    refine JC.retB ?_
                    refine JC.to2 [(2, .x (.bool false))] [] (by kernel_rfl) (by kernel_rfl) ?_
                    exact JC.got (ex := .ret) rfl ⟨rfl, rfl, rfl⟩
                  · refine JC.skipT ?_
                    refine JC.region fun b69 => ?_
                    refine JS.run 2 (by kernel_rfl) ?_
                    refine JS.loadO (id := id26) (sz := 5) (p := 0) (j := 0) (es := [[.x (.int .i64 a24.Depth), .x (.int .i64 a24.Rule), .x (.int .i64 a24.Token), .x (.int .i64 a24.from_), .x (.int .i64 a24.to_)]]) (e := [.x (.int .i64 a24.Depth), .x (.int .i64 a24.Rule), .x (.int .i64 a24.Token), .x (.int .i64 a24.from_), .x (.int .i64 a24.to_)]) 2 (by kernel_rfl) (by kernel_rfl) (by kernel_rfl) (by kernel_rfl) (by kernel_rfl) (by kernel_rfl) ?_
                    refine JS.run 2 (by kernel_rfl) ?_
                    refine JS.loadO (id := id26) (sz := 5) (p := 0) (j := 4) (es := [[.x (.int .i64 a24.Depth), .x (.int .i64 a24.Rule), .x (.int .i64 a24.Token), .x (.int .i64 a24.from_), .x (.int .i64 a24.to_)]]) (e := [.x (.int .i64 a24.Depth), .x (.int .i64 a24.Rule), .x (.int .i64 a24.Token), .x (.int .i64 a24.from_), .x (.int .i64 a24.to_)]) 2 (by kernel_rfl) (by kernel_rfl) (by kernel_rfl) (by kernel_rfl) (by kernel_rfl) (by kernel_rfl) ?_
                    refine JS.idxW (c := (iD .i64)) (l := x15) (o := (some id63)) (off := 0) (len := p43) (kk := .i64) (z := (IntKind.i64.wrap (a24.Depth - (1 : Int)))) 1 (by kernel_rfl) (by kernel_rfl) (by kernel_rfl) (by kernel_rfl) (by kernel_rfl) (fun id72 a70 e73 h71 => ?_)
                    have e73' : id63 = id72 := by injection e73
                    subst e73'
                    refine JS.storeO (id := id63) (sz := 1) (p := (0 + (IntKind.i64.wrap (a24.Depth - (1 : Int))).toNat)) (j := 0) (es := (vl (iD .i64) x15)) (es2 := (vl (iD .i64) (List.set x15 (0 + (IntKind.i64.wrap (a24.Depth - (1 : Int))).toNat) a24.to_))) (e := (cv (iD .i64) a70)) (w := .x (.int .i64 a24.to_)) 1 (by kernel_rfl) (vl_get h71) (by kernel_rfl) (by kernel_rfl) (by kernel_rfl) (vl_set (a := a24.to_) (by kernel_rfl)) (by kernel_rfl) ?_
                    refine JS.nil ?_
                    refine JC.to2 [(0, .c 1 (.lst 5 (a0.map NodeT.D))), (3, .ref (some id50) 0 p41), (4, .ref (some id63) 0 p43), (5, .x (.int .i64 x12)), (6, .ptr id26 5 0 0), (22, .c 1 (.lst 5 (a0.map NodeT.D))), (23, .x (.int .i64 ((a0.length : Nat) : Int))), (24, .x (.int .i64 x12))] [⟨(some id50), 1, vl (iD .i64) x13⟩, ⟨(some id63), 1, vl (iD .i64) (List.set x15 (0 + (IntKind.i64.wrap (a24.Depth - (1 : Int))).toNat) a24.to_)⟩, ⟨(some id26), 5, [[.x (.int .i64 a24.Depth), .x (.int .i64 a24.Rule), .x (.int .i64 a24.Token), .x (.int .i64 a24.from_), .x (.int .i64 a24.to_)]]⟩] (by kernel_rfl) (by kernel_rfl) ?_
                    refine JC.skipT ?_
                    refine JC.regionD fun b74 => ?_
                    refine JSD.run 2 (by kernel_rfl) ?_
                    refine JSD.buildSlice (c := (iD .i64)) ([x12] : List Int) (by kernel_rfl) (by kernel_rfl) (by kernel_rfl) (by kernel_rfl) (by kernel_rfl) (by kernel_rfl) (fun id75 => ?_)
                    refine JSD.appW (c := (iD .i64)) (l := x13) (k := ([x12] : List Int)) (o := (some id50)) (oy := (some id75)) (len := p41) 0 3 (by kernel_rfl) (by kernel_rfl) (by have := (hi?_le h42); simp at this ⊢; omega) (by kernel_rfl) (by kernel_rfl) (fun e => by cases e) (by kernel_rfl) (by kernel_rfl) (by kernel_rfl) (by kernel_rfl) (fun o76 => ?_)
                    refine JSD.run 2 (by kernel_rfl) ?_
                    refine JSD.loadO (id := id26) (sz := 5) (p := 0) (j := 3) (es := [[.x (.int .i64 a24.Depth), .x (.int .i64 a24.Rule), .x (.int .i64 a24.Token), .x (.int .i64 a24.from_), .x (.int .i64 a24.to_)]]) (e := [.x (.int .i64 a24.Depth), .x (.int .i64 a24.Rule), .x (.int .i64 a24.Token), .x (.int .i64 a24.from_), .x (.int .i64 a24.to_)]) 2 (by kernel_rfl) (by kernel_rfl) (by kernel_rfl) (by kernel_rfl) (by kernel_rfl) (by kernel_rfl) (by kernel_rfl) ?_
                    refine JSD.buildSlice (c := (iD .i64)) ([a24.from_] : List Int) (by kernel_rfl) (by kernel_rfl) (by kernel_rfl) (by kernel_rfl) (by kernel_rfl) (by kernel_rfl) (fun id77 => ?_)
                    refine JSD.appW (c := (iD .i64)) (l := (List.set x15 (0 + (IntKind.i64.wrap (a24.Depth - (1 : Int))).toNat) a24.to_)) (k := ([a24.from_] : List Int)) (o := (some id63)) (oy := (some id77)) (len := p43) 1 4 (by kernel_rfl) (by kernel_rfl) (by have := (hi?_le h44); simp at this ⊢; omega) (by kernel_rfl) (by kernel_rfl) (fun e => by cases e) (by kernel_rfl) (by kernel_rfl) (by kernel_rfl) (by kernel_rfl) (fun o78 => ?_)
                    refine JSD.run 2 (by kernel_rfl) ?_
                    refine JSD.nil ?_
                    refine JC.drop 4 ?_
                    refine JC.drop 3 ?_
                    refine JC.drop 2 ?_
                    refine JC.to2 [(0, .c 1 (.lst 5 (a0.map NodeT.D))), (3, .ref o76 0 ((List.take p41 x13 ++ ([x12] : List Int)).length)), (4, .ref o78 0 ((List.take p43 (List.set x15 (0 + (IntKind.i64.wrap (a24.Depth - (1 : Int))).toNat) a24.to_) ++ ([a24.from_] : List Int)).length)), (22, .c 1 (.lst 5 (a0.map NodeT.D))), (23, .x (.int .i64 ((a0.length : Nat) : Int))), (24, .x (.int .i64 x12))] [⟨o76, 1, vl (iD .i64) (List.take p41 x13 ++ ([x12] : List Int))⟩, ⟨o78, 1, vl (iD .i64) (List.take p43 (List.set x15 (0 + (IntKind.i64.wrap (a24.Depth - (1 : Int))).toNat) a24.to_) ++ ([a24.from_] : List Int))⟩] (by kernel_rfl) (by kernel_rfl) ?_
                    refine JC.skipB ?_
                    refine JC.to2 [(0, .c 1 (.lst 5 (a0.map NodeT.D))), (3, .ref o76 0 ((List.take p41 x13 ++ ([x12] : List Int)).length)), (4, .ref o78 0 ((List.take p43 (List.set x15 (0 + (IntKind.i64.wrap (a24.Depth - (1 : Int))).toNat) a24.to_) ++ ([a24.from_] : List Int)).length)), (22, .c 1 (.lst 5 (a0.map NodeT.D))), (23, .x (.int .i64 ((a0.length : Nat) : Int))), (24, .x (.int .i64 x12))] [⟨o76, 1, vl (iD .i64) (List.take p41 x13 ++ ([x12] : List Int))⟩, ⟨o78, 1, vl (iD .i64) (List.take p43 (List.set x15 (0 + (IntKind.i64.wrap (a24.Depth - (1 : Int))).toNat) a24.to_) ++ ([a24.from_] : List Int))⟩] (by kernel_rfl) (by kernel_rfl) ?_
                    exact JC.got (ex := .normal) rfl ⟨o76, o78, rfl, rfl, rfl⟩
            · refine JC.skipT ?_
              refine JC.regionD fun b79 => ?_
              refine JSD.run 2 (by kernel_rfl) ?_
              refine JSD.buildSlice (c := (iD .i64)) ([x12] : List Int) (by kernel_rfl) (by kernel_rfl) (by kernel_rfl) (by kernel_rfl) (by kernel_rfl) (by kernel_rfl) (fun id80 => ?_)
              refine JSD.appW (c := (iD .i64)) (l := x13) (k := ([x12] : List Int)) (o := o14) (oy := (some id80)) (len := p41) 0 3 (by kernel_rfl) (by kernel_rfl) (by have := (hi?_le h42); simp at this ⊢; omega) (by kernel_rfl) (by kernel_rfl) (fun e => by cases e) (by kernel_rfl) (by kernel_rfl) (by kernel_rfl) (by kernel_rfl) (fun o81 => ?_)
              refine JSD.run 2 (by kernel_rfl) ?_
              refine JSD.loadO (id := id26) (sz := 5) (p := 0) (j := 3) (es := [[.x (.int .i64 a24.Depth), .x (.int .i64 a24.Rule), .x (.int .i64 a24.Token), .x (.int .i64 a24.from_), .x (.int .i64 a24.to_)]]) (e := [.x (.int .i64 a24.Depth), .x (.int .i64 a24.Rule), .x (.int .i64 a24.Token), .x (.int .i64 a24.from_), .x (.int .i64 a24.to_)]) 2 (by kernel_rfl) (by kernel_rfl) (by kernel_rfl) (by kernel_rfl) (by kernel_rfl) (by kernel_rfl) (by kernel_rfl) ?_
              refine JSD.buildSlice (c := (iD .i64)) ([a24.from_] : List Int) (by kernel_rfl) (by kernel_rfl) (by kernel_rfl) (by kernel_rfl) (by kernel_rfl) (by kernel_rfl) (fun id82 => ?_)
              refine JSD.appW (c := (iD .i64)) (l := x15) (k := ([a24.from_] : List Int)) (o := o16) (oy := (some id82)) (len := p43) 1 4 (by kernel_rfl) (by kernel_rfl) (by have := (hi?_le h44); simp at this ⊢; omega) (by kernel_rfl) (by kernel_rfl) (fun e => by cases e) (by kernel_rfl) (by kernel_rfl) (by kernel_rfl) (by kernel_rfl) (fun o83 => ?_)
              refine JSD.run 2 (by kernel_rfl) ?_
              refine JSD.nil ?_
              refine JC.drop 4 ?_
              refine JC.drop 3 ?_
              refine JC.drop 2 ?_
              refine JC.to2 [(0, .c 1 (.lst 5 (a0.map NodeT.D))), (3, .ref o81 0 ((List.take p41 x13 ++ ([x12] : List Int)).length)), (4, .ref o83 0 ((List.take p43 x15 ++ ([a24.from_] : List Int)).length)), (22, .c 1 (.lst 5 (a0.map NodeT.D))), (23, .x (.int .i64 ((a0.length : Nat) : Int))), (24, .x (.int .i64 x12))] [⟨o81, 1, vl (iD .i64) (List.take p41 x13 ++ ([x12] : List Int))⟩, ⟨o83, 1, vl (iD .i64) (List.take p43 x15 ++ ([a24.from_] : List Int))⟩] (by kernel_rfl) (by kernel_rfl) ?_
              refine JC.skipB ?_
              refine JC.to2 [(0, .c 1 (.lst 5 (a0.map NodeT.D))), (3, .ref o81 0 ((List.take p41 x13 ++ ([x12] : List Int)).length)), (4, .ref o83 0 ((List.take p43 x15 ++ ([a24.from_] : List Int)).length)), (22, .c 1 (.lst 5 (a0.map NodeT.D))), (23, .x (.int .i64 ((a0.length : Nat) : Int))), (24, .x (.int .i64 x12))] [⟨o81, 1, vl (iD .i64) (List.take p41 x13 ++ ([x12] : List Int))⟩, ⟨o83, 1, vl (iD .i64) (List.take p43 x15 ++ ([a24.from_] : List Int))⟩] (by kernel_rfl) (by kernel_rfl) ?_
              exact JC.got (ex := .normal) rfl ⟨o81, o83, rfl, rfl, rfl⟩
      · rintro v ex E' R' hA
        rcases v with ⟨y19, y21⟩ | _
        · obtain ⟨o20, o22, rfl, rfl, rfl⟩ := hA
          refine JC.to2 [(0, .c 1 (.lst 5 (a0.map NodeT.D))), (3, .ref o20 0 y19.length), (4, .ref o22 0 y21.length), (22, .c 1 (.lst 5 (a0.map NodeT.D))), (23, .x (.int .i64 ((a0.length : Nat) : Int))), (24, .x (.int .i64 x12))] [⟨o20, 1, vl (iD .i64) y19⟩, ⟨o22, 1, vl (iD .i64) y21⟩] (by kernel_rfl) (by kernel_rfl) ?_
          refine JC.skipT ?_
          refine JC.region fun b84 => ?_
          refine JS.run 2 (by kernel_rfl) ?_
          refine JS.nil ?_
          refine JC.to2 [(0, .c 1 (.lst 5 (a0.map NodeT.D))), (3, .ref o20 0 y19.length), (4, .ref o22 0 y21.length), (22, .c 1 (.lst 5 (a0.map NodeT.D))), (23, .x (.int .i64 ((a0.length : Nat) : Int))), (24, .x (.int .i64 (IntKind.i64.wrap (x12 + (1 : Int)))))] [⟨o20, 1, vl (iD .i64) y19⟩, ⟨o22, 1, vl (iD .i64) y21⟩] (by kernel_rfl) (by kernel_rfl) ?_
          refine JC.skipL ?_
          refine JC.to2 [(0, .c 1 (.lst 5 (a0.map NodeT.D))), (3, .ref o20 0 y19.length), (4, .ref o22 0 y21.length), (22, .c 1 (.lst 5 (a0.map NodeT.D))), (23, .x (.int .i64 ((a0.length : Nat) : Int))), (24, .x (.int .i64 (IntKind.i64.wrap (x12 + (1 : Int)))))] [⟨o20, 1, vl (iD .i64) y19⟩, ⟨o22, 1, vl (iD .i64) y21⟩] (by kernel_rfl) (by kernel_rfl) ?_
          exact ih (IntKind.i64.wrap (x12 + (1 : Int))) y19 y21 o20 o22
        · obtain ⟨rfl, rfl, rfl⟩ := hA
          refine JC.to2 [(2, .x (.bool false))] [] (by kernel_rfl) (by kernel_rfl) ?_
          refine JC.retT ?_
          refine JC.retL ?_
          refine JC.to2 [(2, .x (.bool false))] [] (by kernel_rfl) (by kernel_rfl) ?_
          exact JC.got (ex := .ret) rfl ⟨rfl, rfl, rfl⟩
    · refine JC.exitT ?_
      refine JC.exitL ?_
      refine JC.drop 1 ?_
      refine JC.drop 0 ?_
      refine JC.to2 [] [] (by kernel_rfl) (by kernel_rfl) ?_
      exact JC.got (ex := (.exit 0)) rfl ⟨rfl, rfl, rfl⟩
def tree_May (k : Nat) (a0 : (List NodeT)) : Option Bool :=
  (cond (((a0.length : Nat) : Int) == (0 : Int)) (some true) ((at? a0 (0 : Int)).bind fun a5 => some (a5.Depth != (0 : Int)))).bind fun y2 => cond y2 (some false) ((tree_May_l0 a0 k (0 : Int) ([] : List Int) ([] : List Int)).bind fun v => match v with | Sum.inl _ => some true | Sum.inr _ => some false)
theorem tree_May_ok (k : Nat) (a0 : (List NodeT)) : ∀ r, tree_May k a0 = some r → CallOk prog 110 [.c 1 (.lst 5 (a0.map NodeT.D))] false [.sc (.x (.bool r))] := by
  refine CallOk.of' (pf := pf110) (ts := [2]) (Res := fun (r : Bool) => [.sc (.x (.bool r))]) rfl rfl rfl rfl ?_
  unfold tree_May pf110
  refine JC.seq ?_
  refine JC.region fun b1 => ?_
  refine JS.run 1 (by kernel_rfl) ?_
  refine JS.nil ?_
  refine JC.to2 [(0, .c 1 (.lst 5 (a0.map NodeT.D)))] [] (by kernel_rfl) (by kernel_rfl) ?_
  refine JC.skipT ?_
  refine JC.seq ?_
  refine JC.seq ?_
  refine JC.bind (A := fun v ex E R => ex = .normal ∧ E = [(0, .c 1 (.lst 5 (a0.map NodeT.D))), (21, .x (.bool v))] ∧ R = []) ?_ ?_
  · refine JC.region fun b3 => ?_
    refine JS.run 1 (by kernel_rfl) ?_
    refine JS.lenC (c := NodeT.D) (l := a0) (n := 1) (sz := 5) (by kernel_rfl) (by kernel_rfl) (by kernel_rfl) ?_
    refine JS.run 2 (by kernel_rfl) ?_
    refine JS.split (e := (((a0.length : Nat) : Int) == (0 : Int))) 15 (by kernel_rfl) (fun h4 => ?_) (fun h4 => ?_)
    · refine JS.run 6 (by kernel_rfl) ?_
      refine JS.nil ?_
      refine JC.to2 [(0, .c 1 (.lst 5 (a0.map NodeT.D))), (21, .x (.bool true))] [] (by kernel_rfl) (by kernel_rfl) ?_
      refine JC.to2 [(0, .c 1 (.lst 5 (a0.map NodeT.D))), (21, .x (.bool true))] [] (by kernel_rfl) (by kernel_rfl) ?_
      exact JC.got (ex := .normal) rfl ⟨rfl, rfl, rfl⟩
    · refine JS.run 1 (by kernel_rfl) ?_
      refine JS.idxC (c := NodeT.D) (l := a0) (n := 1) (kk := .i64) (z := (0 : Int)) (by kernel_rfl) (by kernel_rfl) (by kernel_rfl) (by kernel_rfl) (fun a5 h6 => ?_)
      refine JS.run 4 (by kernel_rfl) ?_
      refine JS.nil ?_
      refine JC.to2 [(0, .c 1 (.lst 5 (a0.map NodeT.D))), (21, .x (.bool (a5.Depth != (0 : Int))))] [] (by kernel_rfl) (by kernel_rfl) ?_
      refine JC.to2 [(0, .c 1 (.lst 5 (a0.map NodeT.D))), (21, .x (.bool (a5.Depth != (0 : Int))))] [] (by kernel_rfl) (by kernel_rfl) ?_
      exact JC.got (ex := .normal) rfl ⟨rfl, rfl, rfl⟩
  · rintro y2 ex E' R' hA
    obtain ⟨rfl, rfl, rfl⟩ := hA
    refine JC.to2 [(0, .c 1 (.lst 5 (a0.map NodeT.D))), (21, .x (.bool y2))] [] (by kernel_rfl) (by kernel_rfl) ?_
    refine JC.skipT ?_
    refine JC.cond (e := y2) (by kernel_rfl) (fun h7 => ?_) (fun h7 => ?_)
    · refine JC.seq ?_
      refine JC.region fun b8 => ?_
      refine JS.run 1 (by kernel_rfl) ?_
      refine JS.nil ?_
      refine JC.to2 [(2, .x (.bool false))] [] (by kernel_rfl) (by kernel_rfl) ?_
      refine JC.skipT ?_
      refine JC.retT ?_
      exact JC.fin (ex := .ret) (vs := [.x (.bool false)]) (is := []) rfl ret_ne (by kernel_rfl) (Outs.sc rfl Outs.nil)
    · refine JC.skipT ?_
      refine JC.seq ?_
      refine JC.region fun b9 => ?_
      refine JS.run 1 (by kernel_rfl) ?_
      refine JS.nil ?_
      refine JC.to2 [(0, .c 1 (.lst 5 (a0.map NodeT.D))), (3, .x .nil)] [] (by kernel_rfl) (by kernel_rfl) ?_
      refine JC.skipT ?_
      refine JC.seq ?_
      refine JC.region fun b10 => ?_
      refine JS.run 1 (by kernel_rfl) ?_
      refine JS.nil ?_
      refine JC.to2 [(0, .c 1 (.lst 5 (a0.map NodeT.D))), (3, .x .nil), (4, .x .nil)] [] (by kernel_rfl) (by kernel_rfl) ?_
      refine JC.skipT ?_
      refine JC.seq ?_
      refine JC.seq ?_
      refine JC.region fun b11 => ?_
      refine JS.run 1 (by kernel_rfl) ?_
      refine JS.lenC (c := NodeT.D) (l := a0) (n := 1) (sz := 5) (by kernel_rfl) (by kernel_rfl) (by kernel_rfl) ?_
      refine JS.run 1 (by kernel_rfl) ?_
      refine JS.nil ?_
      refine JC.to2 [(0, .c 1 (.lst 5 (a0.map NodeT.D))), (3, .x .nil), (4, .x .nil), (22, .c 1 (.lst 5 (a0.map NodeT.D))), (23, .x (.int .i64 ((a0.length : Nat) : Int))), (24, .x (.int .i64 (0 : Int)))] [] (by kernel_rfl) (by kernel_rfl) ?_
      refine JC.skipT ?_
      refine JC.block ?_
      refine JC.to2 [(0, .c 1 (.lst 5 (a0.map NodeT.D))), (3, .x .nil), (4, .x .nil), (22, .c 1 (.lst 5 (a0.map NodeT.D))), (23, .x (.int .i64 ((a0.length : Nat) : Int))), (24, .x (.int .i64 (0 : Int)))] [] (by kernel_rfl) (by kernel_rfl) ?_
      refine JC.virt 3 1 (by kernel_rfl) ?_
      refine JC.virt 4 1 (by kernel_rfl) ?_
      refine JC.to2 [(0, .c 1 (.lst 5 (a0.map NodeT.D))), (3, .ref none 0 (([] : List Int).length)), (4, .ref none 0 (([] : List Int).length)), (22, .c 1 (.lst 5 (a0.map NodeT.D))), (23, .x (.int .i64 ((a0.length : Nat) : Int))), (24, .x (.int .i64 (0 : Int)))] [⟨none, 1, vl (iD .i64) ([] : List Int)⟩, ⟨none, 1, vl (iD .i64) ([] : List Int)⟩] (by kernel_rfl) (by kernel_rfl) ?_
      refine JC.bind (A := fun v ex E R => match v with | Sum.inl v => ex = (.exit 0) ∧ E = [] ∧ R = [] | Sum.inr v => ex = .ret ∧ E = [(2, .x (.bool false))] ∧ R = []) (tree_May_l0_ok a0 k (0 : Int) ([] : List Int) ([] : List Int) none none) ?_
      rintro v ex E' R' hA
      rcases v with _ | _
      · obtain ⟨rfl, rfl, rfl⟩ := hA
        refine JC.to2 [] [] (by kernel_rfl) (by kernel_rfl) ?_
        refine JC.exitB ?_
        refine JC.skipT ?_
        refine JC.seq ?_
        refine JC.region fun b85 => ?_
        refine JS.run 1 (by kernel_rfl) ?_
        refine JS.nil ?_
        refine JC.to2 [(2, .x (.bool true))] [] (by kernel_rfl) (by kernel_rfl) ?_
        refine JC.skipT ?_
        exact JC.fin (ex := .ret) (vs := [.x (.bool true)]) (is := []) rfl ret_ne (by kernel_rfl) (Outs.sc rfl Outs.nil)
      · obtain ⟨rfl, rfl, rfl⟩ := hA
        refine JC.to2 [(2, .x (.bool false))] [] (by kernel_rfl) (by kernel_rfl) ?_
        refine JC.retB ?_
        refine JC.retT ?_
        exact JC.fin (ex := .ret) (vs := [.x (.bool false)]) (is := []) rfl ret_ne (by kernel_rfl) (Outs.sc rfl Outs.nil)
/-! eyot/tree.Kids -/
def tree_Kids_l0 (a0 : (List NodeT)) (a1 : Int) : Nat → Int → (List Int) → Option (List Int)
  | 0, _, _ => none
  | k + 1, x12, x13 => (cond (decide (x12 < ((a0.length : Nat) : Int))) ((at? a0 x12).bind fun a20 => (at? a0 a1).bind fun a22 => some (decide (a20.Depth > a22.Depth))) (some false)).bind fun y17 => cond y17 (((at? a0 x12).bind fun a28 => (at? a0 a1).bind fun a30 => cond (a28.Depth == (IntKind.i64.wrap (a30.Depth + (1 : Int)))) (room (x13.length + ([x12] : List Int).length) 8 (some (x13 ++ ([x12] : List Int)))) (some x13)).bind fun y25 => tree_Kids_l0 a0 a1 k (IntKind.i64.wrap (x12 + (1 : Int))) y25) (some x13)
theorem tree_Kids_l0_ok (a0 : (List NodeT)) (a1 : Int)  : ∀ (k : Nat) (x12 : Int) (x13 : (List Int)) (o14 : Option Nat), JC prog noFr 58 [(0, .c 1 (.lst 5 (a0.map NodeT.D))), (1, .x (.int .i64 a1)), (5, .ref o14 0 x13.length), (6, .x (.int .i64 x12))] [⟨o14, 1, vl (iD .i64) x13⟩] (.loop pf111_L0) (tree_Kids_l0 a0 a1 k x12 x13) (fun x => GotA 58 noFr ((fun v ex E R => ∃ (o16 : Option Nat), ex = (.exit 0) ∧ E = [(5, .ref o16 0 v.length)] ∧ R = [⟨o16, 1, vl (iD .i64) v⟩]) x)) := by
  intro k
  induction k with
  | zero =>
    intro x12 x13 o14
    exact JC.no
  | succ k ih =>
    intro x12 x13 o14
    rw [tree_Kids_l0]
    refine JC.loop ?_
    refine JC.seq ?_
    refine JC.seq ?_
    refine JC.bind (A := fun v ex E R => ex = .normal ∧ E = [(0, .c 1 (.lst 5 (a0.map NodeT.D))), (1, .x (.int .i64 a1)), (5, .ref o14 0 x13.length), (6, .x (.int .i64 x12)), (38, .x (.bool v))] ∧ R = [⟨o14, 1, vl (iD .i64) x13⟩]) ?_ ?_
    · refine JC.region fun b18 => ?_
      refine JS.run 2 (by kernel_rfl) ?_
      refine JS.lenC (c := NodeT.D) (l := a0) (n := 1) (sz := 5) (by kernel_rfl) (by kernel_rfl) (by kernel_rfl) ?_
      refine JS.run 2 (by kernel_rfl) ?_
      refine JS.split (e := (decide (x12 < ((a0.length : Nat) : Int)))) 26 (by kernel_rfl) (fun h19 => ?_) (fun h19 => ?_)
      · refine JS.run 2 (by kernel_rfl) ?_
        refine JS.idxC (c := NodeT.D) (l := a0) (n := 1) (kk := .i64) (z := x12) (by kernel_rfl) (by kernel_rfl) (by kernel_rfl) (by kernel_rfl) (fun a20 h21 => ?_)
        refine JS.run 4 (by kernel_rfl) ?_
        refine JS.idxC (c := NodeT.D) (l := a0) (n := 1) (kk := .i64) (z := a1) (by kernel_rfl) (by kernel_rfl) (by kernel_rfl) (by kernel_rfl) (fun a22 h23 => ?_)
        refine JS.run 4 (by kernel_rfl) ?_
        refine JS.nil ?_
        refine JC.to2 [(0, .c 1 (.lst 5 (a0.map NodeT.D))), (1, .x (.int .i64 a1)), (5, .ref o14 0 x13.length), (6, .x (.int .i64 x12)), (38, .x (.bool (decide (a20.Depth > a22.Depth))))] [⟨o14, 1, vl (iD .i64) x13⟩] (by kernel_rfl) (by kernel_rfl) ?_
        refine JC.to2 [(0, .c 1 (.lst 5 (a0.map NodeT.D))), (1, .x (.int .i64 a1)), (5, .ref o14 0 x13.length), (6, .x (.int .i64 x12)), (38, .x (.bool (decide (a20.Depth > a22.Depth))))] [⟨o14, 1, vl (iD .i64) x13⟩] (by kernel_rfl) (by kernel_rfl) ?_
        exact JC.got (ex := .normal) rfl ⟨rfl, rfl, rfl⟩
      · refine JS.run 12 (by kernel_rfl) ?_
        refine JS.nil ?_
        refine JC.to2 [(0, .c 1 (.lst 5 (a0.map NodeT.D))), (1, .x (.int .i64 a1)), (5, .ref o14 0 x13.length), (6, .x (.int .i64 x12)), (38, .x (.bool false))] [⟨o14, 1, vl (iD .i64) x13⟩] (by kernel_rfl) (by kernel_rfl) ?_
        refine JC.to2 [(0, .c 1 (.lst 5 (a0.map NodeT.D))), (1, .x (.int .i64 a1)), (5, .ref o14 0 x13.length), (6, .x (.int .i64 x12)), (38, .x (.bool false))] [⟨o14, 1, vl (iD .i64) x13⟩] (by kernel_rfl) (by kernel_rfl) ?_
        exact JC.got (ex := .normal) rfl ⟨rfl, rfl, rfl⟩
    · rintro y17 ex E' R' hA
      obtain ⟨rfl, rfl, rfl⟩ := hA
      refine JC.to2 [(0, .c 1 (.lst 5 (a0.map NodeT.D))), (1, .x (.int .i64 a1)), (5, .ref o14 0 x13.length), (6, .x (.int .i64 x12)), (38, .x (.bool y17))] [⟨o14, 1, vl (iD .i64) x13⟩] (by kernel_rfl) (by kernel_rfl) ?_
      refine JC.skipT ?_
      refine JC.cond (e := y17) (by kernel_rfl) (fun h24 => ?_) (fun h24 => ?_)
      · refine JC.skipT ?_
        refine JC.seq ?_
        refine JC.bind (A := fun v ex E R => ∃ (o26 : Option Nat), ex = .normal ∧ E = [(0, .c 1 (.lst 5 (a0.map NodeT.D))), (1, .x (.int .i64 a1)), (5, .ref o26 0 v.length), (6, .x (.int .i64 x12))] ∧ R = [⟨o26, 1, vl (iD .i64) v⟩]) ?_ ?_
        · refine JC.block ?_
          refine JC.seq ?_
          refine JC.region fun b27 => ?_
          refine JS.run 2 (by kernel_rfl) ?_
          refine JS.idxC (c := NodeT.D) (l := a0) (n := 1) (kk := .i64) (z := x12) (by kernel_rfl) (by kernel_rfl) (by kernel_rfl) (by kernel_rfl) (fun a28 h29 => ?_)
          refine JS.run 4 (by kernel_rfl) ?_
          refine JS.idxC (c := NodeT.D) (l := a0) (n := 1) (kk := .i64) (z := a1) (by kernel_rfl) (by kernel_rfl) (by kernel_rfl) (by kernel_rfl) (fun a30 h31 => ?_)
          refine JS.run 4 (by kernel_rfl) ?_
          refine JS.nil ?_
          refine JC.to2 [(0, .c 1 (.lst 5 (a0.map NodeT.D))), (1, .x (.int .i64 a1)), (5, .ref o14 0 x13.length), (6, .x (.int .i64 x12)), (52, .x (.bool (a28.Depth == (IntKind.i64.wrap (a30.Depth + (1 : Int))))))] [⟨o14, 1, vl (iD .i64) x13⟩] (by kernel_rfl) (by kernel_rfl) ?_
          refine JC.skipT ?_
          refine JC.cond (e := (a28.Depth == (IntKind.i64.wrap (a30.Depth + (1 : Int))))) (by kernel_rfl) (fun h32 => ?_) (fun h32 => ?_)
          · refine JC.region fun b33 => ?_
            refine JS.run 2 (by kernel_rfl) ?_
            refine JS.buildSlice (c := (iD .i64)) ([x12] : List Int) (by kernel_rfl) (by kernel_rfl) (by kernel_rfl) (by kernel_rfl) (by kernel_rfl) (fun id34 => ?_)
            refine JS.appT (c := (iD .i64)) (l := x13) (k := ([x12] : List Int)) (o := o14) 0 (by kernel_rfl) (by kernel_rfl) (srcT (c := (iD .i64)) (l := ([x12] : List Int)) (o := (some id34)) 1 (by kernel_rfl) (by kernel_rfl)) (by kernel_rfl) (by kernel_rfl) (by kernel_rfl) (fun o35 => ?_)
            refine JS.run 1 (by kernel_rfl) ?_
            refine JS.nil ?_
            refine JC.drop 1 ?_
            refine JC.to2 [(0, .c 1 (.lst 5 (a0.map NodeT.D))), (1, .x (.int .i64 a1)), (5, .ref o35 0 ((x13 ++ ([x12] : List Int)).length)), (6, .x (.int .i64 x12))] [⟨o35, 1, vl (iD .i64) (x13 ++ ([x12] : List Int))⟩] (by kernel_rfl) (by kernel_rfl) ?_
            refine JC.skipB ?_
            refine JC.to2 [(0, .c 1 (.lst 5 (a0.map NodeT.D))), (1, .x (.int .i64 a1)), (5, .ref o35 0 ((x13 ++ ([x12] : List Int)).length)), (6, .x (.int .i64 x12))] [⟨o35, 1, vl (iD .i64) (x13 ++ ([x12] : List Int))⟩] (by kernel_rfl) (by kernel_rfl) ?_
            exact JC.got (ex := .normal) rfl ⟨o35, rfl, rfl, rfl⟩
          · refine JC.skipB ?_
            refine JC.to2 [(0, .c 1 (.lst 5 (a0.map NodeT.D))), (1, .x (.int .i64 a1)), (5, .ref o14 0 x13.length), (6, .x (.int .i64 x12))] [⟨o14, 1, vl (iD .i64) x13⟩] (by kernel_rfl) (by kernel_rfl) ?_
            exact JC.got (ex := .normal) rfl ⟨o14, rfl, rfl, rfl⟩
        · rintro y25 ex E' R' hA
          obtain ⟨o26, rfl, rfl, rfl⟩ := hA
          refine JC.to2 [(0, .c 1 (.lst 5 (a0.map NodeT.D))), (1, .x (.int .i64 a1)), (5, .ref o26 0 y25.length), (6, .x (.int .i64 x12))] [⟨o26, 1, vl (iD .i64) y25⟩] (by kernel_rfl) (by kernel_rfl) ?_
          refine JC.skipT ?_
          refine JC.region fun b36 => ?_
          refine JS.run 3 (by kernel_rfl) ?_
          refine JS.nil ?_
          refine JC.to2 [(0, .c 1 (.lst 5 (a0.map NodeT.D))), (1, .x (.int .i64 a1)), (5, .ref o26 0 y25.length), (6, .x (.int .i64 (IntKind.i64.wrap (x12 + (1 : Int)))))] [⟨o26, 1, vl (iD .i64) y25⟩] (by kernel_rfl) (by kernel_rfl) ?_
          refine JC.skipL ?_
          refine JC.to2 [(0, .c 1 (.lst 5 (a0.map NodeT.D))), (1, .x (.int .i64 a1)), (5, .ref o26 0 y25.length), (6, .x (.int .i64 (IntKind.i64.wrap (x12 + (1 : Int)))))] [⟨o26, 1, vl (iD .i64) y25⟩] (by kernel_rfl) (by kernel_rfl) ?_
          exact ih (IntKind.i64.wrap (x12 + (1 : Int))) y25 o26
      · refine JC.exitT ?_
        refine JC.exitL ?_
        refine JC.to2 [(5, .ref o14 0 x13.length)] [⟨o14, 1, vl (iD .i64) x13⟩] (by kernel_rfl) (by kernel_rfl) ?_
        exact JC.got (ex := (.exit 0)) rfl ⟨o14, rfl, rfl, rfl⟩
def tree_Kids (k : Nat) (a0 : (List NodeT)) (a1 : Int) : Option (List Int) :=
  ((tree_May k a0).bind fun r4 => cond (!r4) (some true) (cond (decide (a1 < (0 : Int))) (some true) (some (decide (a1 ≥ ((a0.length : Nat) : Int)))))).bind fun y2 => cond y2 (some ([] : (List Int))) ((tree_Kids_l0 a0 a1 k (IntKind.i64.wrap (a1 + (1 : Int))) ([] : List Int)).bind fun y15 => some y15)
theorem tree_Kids_ok (k : Nat) (a0 : (List NodeT)) (a1 : Int) : ∀ r, tree_Kids k a0 a1 = some r → CallOk prog 111 [.c 1 (.lst 5 (a0.map NodeT.D)), .x (.int .i64 a1)] false [.own 1 (vl (iD .i64) r)] := by
  refine CallOk.of' (pf := pf111) (ts := [4]) (Res := fun (r : (List Int)) => [.own 1 (vl (iD .i64) r)]) rfl rfl rfl rfl ?_
  unfold tree_Kids pf111
  refine JC.seq ?_
  refine JC.region fun b1 => ?_
  refine JS.run 1 (by kernel_rfl) ?_
  refine JS.nil ?_
  refine JC.to2 [(0, .c 1 (.lst 5 (a0.map NodeT.D))), (1, .x (.int .i64 a1))] [] (by kernel_rfl) (by kernel_rfl) ?_
  refine JC.skipT ?_
  refine JC.seq ?_
  refine JC.seq ?_
  refine JC.bind (A := fun v ex E R => ex = .normal ∧ E = [(0, .c 1 (.lst 5 (a0.map NodeT.D))), (1, .x (.int .i64 a1)), (19, .x (.bool v))] ∧ R = []) ?_ ?_
  · refine JC.region fun b3 => ?_
    refine JS.run 1 (by kernel_rfl) ?_
    refine JS.bind fun r4 h5 => ?_
    refine JS.callS [] (tree_May_ok k a0 r4 h5) ⟨rfl, argC (n := 1) (by kernel_rfl) (by kernel_rfl) (by kernel_rfl), trivial⟩ (by kernel_rfl) (by kernel_rfl) (by kernel_rfl) ?_
    refine JS.run 2 (by kernel_rfl) ?_
    refine JS.split (e := (!r4)) 10 (by kernel_rfl) (fun h6 => ?_) (fun h6 => ?_)
    · refine JS.run 9 (by kernel_rfl) ?_
      refine JS.nil ?_
      refine JC.to2 [(0, .c 1 (.lst 5 (a0.map NodeT.D))), (1, .x (.int .i64 a1)), (19, .x (.bool true))] [] (by kernel_rfl) (by kernel_rfl) ?_
      refine JC.to2 [(0, .c 1 (.lst 5 (a0.map NodeT.D))), (1, .x (.int .i64 a1)), (19, .x (.bool true))] [] (by kernel_rfl) (by kernel_rfl) ?_
      exact JC.got (ex := .normal) rfl ⟨rfl, rfl, rfl⟩
    · refine JS.run 4 (by kernel_rfl) ?_
      refine JS.split (e := (decide (a1 < (0 : Int)))) 14 (by kernel_rfl) (fun h7 => ?_) (fun h7 => ?_)
      · refine JS.run 5 (by kernel_rfl) ?_
        refine JS.nil ?_
        refine JC.to2 [(0, .c 1 (.lst 5 (a0.map NodeT.D))), (1, .x (.int .i64 a1)), (19, .x (.bool true))] [] (by kernel_rfl) (by kernel_rfl) ?_
        refine JC.to2 [(0, .c 1 (.lst 5 (a0.map NodeT.D))), (1, .x (.int .i64 a1)), (19, .x (.bool true))] [] (by kernel_rfl) (by kernel_rfl) ?_
        exact JC.got (ex := .normal) rfl ⟨rfl, rfl, rfl⟩
      · refine JS.run 2 (by kernel_rfl) ?_
        refine JS.lenC (c := NodeT.D) (l := a0) (n := 1) (sz := 5) (by kernel_rfl) (by kernel_rfl) (by kernel_rfl) ?_
        refine JS.run 2 (by kernel_rfl) ?_
        refine JS.nil ?_
        refine JC.to2 [(0, .c 1 (.lst 5 (a0.map NodeT.D))), (1, .x (.int .i64 a1)), (19, .x (.bool (decide (a1 ≥ ((a0.length : Nat) : Int)))))] [] (by kernel_rfl) (by kernel_rfl) ?_
        refine JC.to2 [(0, .c 1 (.lst 5 (a0.map NodeT.D))), (1, .x (.int .i64 a1)), (19, .x (.bool (decide (a1 ≥ ((a0.length : Nat) : Int)))))] [] (by kernel_rfl) (by kernel_rfl) ?_
        exact JC.got (ex := .normal) rfl ⟨rfl, rfl, rfl⟩
  · rintro y2 ex E' R' hA
    obtain ⟨rfl, rfl, rfl⟩ := hA
    refine JC.to2 [(0, .c 1 (.lst 5 (a0.map NodeT.D))), (1, .x (.int .i64 a1)), (19, .x (.bool y2))] [] (by kernel_rfl) (by kernel_rfl) ?_
    refine JC.skipT ?_
    refine JC.cond (e := y2) (by kernel_rfl) (fun h8 => ?_) (fun h8 => ?_)
    · refine JC.seq ?_
      refine JC.region fun b9 => ?_
      refine JS.run 1 (by kernel_rfl) ?_
      refine JS.nil ?_
      refine JC.to2 [(4, .x .nil)] [] (by kernel_rfl) (by kernel_rfl) ?_
      refine JC.skipT ?_
      refine JC.retT ?_
      exact JC.fin (ex := .ret) (vs := [.x .nil]) (is := []) rfl ret_ne (by kernel_rfl) (Outs.nl Outs.nil)
    · refine JC.skipT ?_
      refine JC.seq ?_
      refine JC.region fun b10 => ?_
      refine JS.run 1 (by kernel_rfl) ?_
      refine JS.nil ?_
      refine JC.to2 [(0, .c 1 (.lst 5 (a0.map NodeT.D))), (1, .x (.int .i64 a1)), (5, .x .nil)] [] (by kernel_rfl) (by kernel_rfl) ?_
      refine JC.skipT ?_
      refine JC.seq ?_
      refine JC.seq ?_
      refine JC.region fun b11 => ?_
      refine JS.run 3 (by kernel_rfl) ?_
      refine JS.nil ?_
      refine JC.to2 [(0, .c 1 (.lst 5 (a0.map NodeT.D))), (1, .x (.int .i64 a1)), (5, .x .nil), (6, .x (.int .i64 (IntKind.i64.wrap (a1 + (1 : Int)))))] [] (by kernel_rfl) (by kernel_rfl) ?_
      refine JC.skipT ?_
      refine JC.block ?_
      refine JC.to2 [(0, .c 1 (.lst 5 (a0.map NodeT.D))), (1, .x (.int .i64 a1)), (5, .x .nil), (6, .x (.int .i64 (IntKind.i64.wrap (a1 + (1 : Int)))))] [] (by kernel_rfl) (by kernel_rfl) ?_
      refine JC.virt 5 1 (by kernel_rfl) ?_
      refine JC.to2 [(0, .c 1 (.lst 5 (a0.map NodeT.D))), (1, .x (.int .i64 a1)), (5, .ref none 0 (([] : List Int).length)), (6, .x (.int .i64 (IntKind.i64.wrap (a1 + (1 : Int)))))] [⟨none, 1, vl (iD .i64) ([] : List Int)⟩] (by kernel_rfl) (by kernel_rfl) ?_
      refine JC.bind (A := fun v ex E R => ∃ (o16 : Option Nat), ex = (.exit 0) ∧ E = [(5, .ref o16 0 v.length)] ∧ R = [⟨o16, 1, vl (iD .i64) v⟩]) (tree_Kids_l0_ok a0 a1 k (IntKind.i64.wrap (a1 + (1 : Int))) ([] : List Int) none) ?_
      rintro y15 ex E' R' hA
      obtain ⟨o16, rfl, rfl, rfl⟩ := hA
      refine JC.to2 [(5, .ref o16 0 y15.length)] [⟨o16, 1, vl (iD .i64) y15⟩] (by kernel_rfl) (by kernel_rfl) ?_
      refine JC.exitB ?_
      refine JC.skipT ?_
      refine JC.seq ?_
      refine JC.region fun b37 => ?_
      refine JS.run 2 (by kernel_rfl) ?_
      refine JS.nil ?_
      refine JC.to2 [(4, .ref o16 0 y15.length)] [⟨o16, 1, vl (iD .i64) y15⟩] (by kernel_rfl) (by kernel_rfl) ?_
      refine JC.skipT ?_
      refine JC.relen (o := o16) (off := 0) (n := y15.length) (n' := (vl (iD .i64) y15).length) 4 (by kernel_rfl) (vl_len _ _).symm ?_
      exact JC.fin (ex := .ret) (vs := [.ref o16 0 (vl (iD .i64) y15).length]) (is := [0]) rfl ret_ne (by kernel_rfl) (Outs.own (i := 0) (by kernel_rfl) (vl_out fun _ => rfl) rfl Outs.nil)
/-! eyot/tree.Path -/
def tree_Path_l0 (a0 : (List NodeT)) (a1 : Int) : Nat → Int → (List Int) → Option (List Int)
  | 0, _, _ => none
  | k + 1, x9, x10 => cond (decide (x9 < ((a0.length : Nat) : Int))) (((at? a0 x9).bind fun a19 => ((tree_holds k (⟨a19.Depth, a19.Rule, a19.Token, a19.from_, a19.to_⟩ : NodeT) a1).bind fun r24 => cond r24 (some (a19.Depth == ((x10.length : Nat) : Int))) (some false)).bind fun y22 => cond y22 (room (x10.length + ([x9] : List Int).length) 8 (some (x10 ++ ([x9] : List Int)))) (some x10)).bind fun y16 => tree_Path_l0 a0 a1 k (IntKind.i64.wrap (x9 + (1 : Int))) y16) (some x10)
theorem tree_Path_l0_ok (a0 : (List NodeT)) (a1 : Int)  : ∀ (k : Nat) (x9 : Int) (x10 : (List Int)) (o11 : Option Nat), JC prog noFr 34 [(1, .x (.int .i64 a1)), (5, .ref o11 0 x10.length), (11, .c 1 (.lst 5 (a0.map NodeT.D))), (12, .x (.int .i64 ((a0.length : Nat) : Int))), (13, .x (.int .i64 x9))] [⟨o11, 1, vl (iD .i64) x10⟩] (.loop pf112_L0) (tree_Path_l0 a0 a1 k x9 x10) (fun x => GotA 34 noFr ((fun v ex E R => ∃ (o13 : Option Nat), ex = (.exit 0) ∧ E = [(5, .ref o13 0 v.length)] ∧ R = [⟨o13, 1, vl (iD .i64) v⟩]) x)) := by
  intro k
  induction k with
  | zero =>
    intro x9 x10 o11
    exact JC.no
  | succ k ih =>
    intro x9 x10 o11
    rw [tree_Path_l0]
    refine JC.loop ?_
    refine JC.seq ?_
    refine JC.region fun b14 => ?_
    refine JS.run 1 (by kernel_rfl) ?_
    refine JS.nil ?_
    refine JC.to2 [(1, .x (.int .i64 a1)), (5, .ref o11 0 x10.length), (11, .c 1 (.lst 5 (a0.map NodeT.D))), (12, .x (.int .i64 ((a0.length : Nat) : Int))), (13, .x (.int .i64 x9)), (14, .x (.bool (decide (x9 < ((a0.length : Nat) : Int)))))] [⟨o11, 1, vl (iD .i64) x10⟩] (by kernel_rfl) (by kernel_rfl) ?_
    refine JC.skipT ?_
    refine JC.seq ?_
    refine JC.cond (e := (decide (x9 < ((a0.length : Nat) : Int)))) (by kernel_rfl) (fun h15 => ?_) (fun h15 => ?_)
    · refine JC.skipT ?_
      refine JC.seq ?_
      refine JC.bind (A := fun v ex E R => ∃ (o17 : Option Nat), ex = .normal ∧ E = [(1, .x (.int .i64 a1)), (5, .ref o17 0 v.length), (11, .c 1 (.lst 5 (a0.map NodeT.D))), (12, .x (.int .i64 ((a0.length : Nat) : Int))), (13, .x (.int .i64 x9))] ∧ R = [⟨o17, 1, vl (iD .i64) v⟩]) ?_ ?_
      · refine JC.block ?_
        refine JC.seq ?_
        refine JC.region fun b18 => ?_
        refine JS.run 1 (by kernel_rfl) ?_
        refine JS.idxC (c := NodeT.D) (l := a0) (n := 1) (kk := .i64) (z := x9) (by kernel_rfl) (by kernel_rfl) (by kernel_rfl) (by kernel_rfl) (fun a19 h20 => ?_)
        refine JS.run 1 (by kernel_rfl) ?_
        refine JS.alloc (by kernel_rfl) (by kernel_rfl) (by kernel_rfl) (fun id21 => ?_)
        refine JS.run 1 (by kernel_rfl) ?_
        refine JS.storeO (id := id21) (sz := 5) (p := 0) (j := 0) (es := [[.x (.int .i64 (0 : Int)), .x (.int .i64 (0 : Int)), .x (.int .i64 (0 : Int)), .x (.int .i64 (0 : Int)), .x (.int .i64 (0 : Int))]]) (es2 := [[.x (.int .i64 a19.Depth), .x (.int .i64 a19.Rule), .x (.int .i64 a19.Token), .x (.int .i64 a19.from_), .x (.int .i64 a19.to_)]]) (e := [.x (.int .i64 (0 : Int)), .x (.int .i64 (0 : Int)), .x (.int .i64 (0 : Int)), .x (.int .i64 (0 : Int)), .x (.int .i64 (0 : Int))]) (w := .agg [.x (.int .i64 a19.Depth), .x (.int .i64 a19.Rule), .x (.int .i64 a19.Token), .x (.int .i64 a19.from_), .x (.int .i64 a19.to_)]) 1 (by kernel_rfl) (by kernel_rfl) (by kernel_rfl) (by kernel_rfl) (by kernel_rfl) (by kernel_rfl) (by kernel_rfl) ?_
        refine JS.nil ?_
        refine JC.to2 [(1, .x (.int .i64 a1)), (5, .ref o11 0 x10.length), (6, .x (.int .i64 x9)), (7, .ptr id21 5 0 0), (11, .c 1 (.lst 5 (a0.map NodeT.D))), (12, .x (.int .i64 ((a0.length : Nat) : Int))), (13, .x (.int .i64 x9))] [⟨o11, 1, vl (iD .i64) x10⟩, ⟨(some id21), 5, [[.x (.int .i64 a19.Depth), .x (.int .i64 a19.Rule), .x (.int .i64 a19.Token), .x (.int .i64 a19.from_), .x (.int .i64 a19.to_)]]⟩] (by kernel_rfl) (by kernel_rfl) ?_
        refine JC.skipT ?_
        refine JC.seq ?_
        refine JC.bind (A := fun v ex E R => ex = .normal ∧ E = [(1, .x (.int .i64 a1)), (5, .ref o11 0 x10.length), (6, .x (.int .i64 x9)), (11, .c 1 (.lst 5 (a0.map NodeT.D))), (12, .x (.int .i64 ((a0.length : Nat) : Int))), (13, .x (.int .i64 x9)), (27, .x (.bool v))] ∧ R = [⟨o11, 1, vl (iD .i64) x10⟩]) ?_ ?_
        · refine JC.region fun b23 => ?_
          refine JS.loadO (id := id21) (sz := 5) (p := 0) (j := 0) (es := [[.x (.int .i64 a19.Depth), .x (.int .i64 a19.Rule), .x (.int .i64 a19.Token), .x (.int .i64 a19.from_), .x (.int .i64 a19.to_)]]) (e := [.x (.int .i64 a19.Depth), .x (.int .i64 a19.Rule), .x (.int .i64 a19.Token), .x (.int .i64 a19.from_), .x (.int .i64 a19.to_)]) 1 (by kernel_rfl) (by kernel_rfl) (by kernel_rfl) (by kernel_rfl) (by kernel_rfl) (by kernel_rfl) ?_
          refine JS.run 1 (by kernel_rfl) ?_
          refine JS.bind fun r24 h25 => ?_
          refine JS.callS [] (tree_holds_ok k (⟨a19.Depth, a19.Rule, a19.Token, a19.from_, a19.to_⟩ : NodeT) a1 r24 h25) ⟨rfl, argG (vs := [.x (.int .i64 a19.Depth), .x (.int .i64 a19.Rule), .x (.int .i64 a19.Token), .x (.int .i64 a19.from_), .x (.int .i64 a19.to_)]) (by kernel_rfl) (by kernel_rfl), rfl, argX (d := (.int .i64 a1)) (by kernel_rfl) (by kernel_rfl), trivial⟩ (by kernel_rfl) (by kernel_rfl) (by kernel_rfl) ?_
          refine JS.run 1 (by kernel_rfl) ?_
          refine JS.split (e := r24) 21 (by kernel_rfl) (fun h26 => ?_) (fun h26 => ?_)
          · refine JS.run 1 (by kernel_rfl) ?_
            refine JS.loadO (id := id21) (sz := 5) (p := 0) (j := 0) (es := [[.x (.int .i64 a19.Depth), .x (.int .i64 a19.Rule), .x (.int .i64 a19.Token), .x (.int .i64 a19.from_), .x (.int .i64 a19.to_)]]) (e := [.x (.int .i64 a19.Depth), .x (.int .i64 a19.Rule), .x (.int .i64 a19.Token), .x (.int .i64 a19.from_), .x (.int .i64 a19.to_)]) 1 (by kernel_rfl) (by kernel_rfl) (by kernel_rfl) (by kernel_rfl) (by kernel_rfl) (by kernel_rfl) ?_
            refine JS.run 4 (by kernel_rfl) ?_
            refine JS.nil ?_
            refine JC.drop 1 ?_
            refine JC.to2 [(1, .x (.int .i64 a1)), (5, .ref o11 0 x10.length), (6, .x (.int .i64 x9)), (11, .c 1 (.lst 5 (a0.map NodeT.D))), (12, .x (.int .i64 ((a0.length : Nat) : Int))), (13, .x (.int .i64 x9)), (27, .x (.bool (a19.Depth == ((x10.length : Nat) : Int))))] [⟨o11, 1, vl (iD .i64) x10⟩] (by kernel_rfl) (by kernel_rfl) ?_
            refine JC.to2 [(1, .x (.int .i64 a1)), (5, .ref o11 0 x10.length), (6, .x (.int .i64 x9)), (11, .c 1 (.lst 5 (a0.map NodeT.D))), (12, .x (.int .i64 ((a0.length : Nat) : Int))), (13, .x (.int .i64 x9)), (27, .x (.bool (a19.Depth == ((x10.length : Nat) : Int))))] [⟨o11, 1, vl (iD .i64) x10⟩] (by kernel_rfl) (by kernel_rfl) ?_
            exact JC.got (ex := .normal) rfl ⟨rfl, rfl, rfl⟩
          · refine JS.run 6 (by kernel_rfl) ?_
            refine JS.nil ?_
            refine JC.drop 1 ?_
            refine JC.to2 [(1, .x (.int .i64 a1)), (5, .ref o11 0 x10.length), (6, .x (.int .i64 x9)), (11, .c 1 (.lst 5 (a0.map NodeT.D))), (12, .x (.int .i64 ((a0.length : Nat) : Int))), (13, .x (.int .i64 x9)), (27, .x (.bool false))] [⟨o11, 1, vl (iD .i64) x10⟩] (by kernel_rfl) (by kernel_rfl) ?_
            refine JC.to2 [(1, .x (.int .i64 a1)), (5, .ref o11 0 x10.length), (6, .x (.int .i64 x9)), (11, .c 1 (.lst 5 (a0.map NodeT.D))), (12, .x (.int .i64 ((a0.length : Nat) : Int))), (13, .x (.int .i64 x9)), (27, .x (.bool false))] [⟨o11, 1, vl (iD .i64) x10⟩] (by kernel_rfl) (by kernel_rfl) ?_
            exact JC.got (ex := .normal) rfl ⟨rfl, rfl, rfl⟩
        · rintro y22 ex E' R' hA
          obtain ⟨rfl, rfl, rfl⟩ := hA
          refine JC.to2 [(1, .x (.int .i64 a1)), (5, .ref o11 0 x10.length), (6, .x (.int .i64 x9)), (11, .c 1 (.lst 5 (a0.map NodeT.D))), (12, .x (.int .i64 ((a0.length : Nat) : Int))), (13, .x (.int .i64 x9)), (27, .x (.bool y22))] [⟨o11, 1, vl (iD .i64) x10⟩] (by kernel_rfl) (by kernel_rfl) ?_
          refine JC.skipT ?_
          refine JC.cond (e := y22) (by kernel_rfl) (fun h27 => ?_) (fun h27 => ?_)
          · refine JC.region fun b28 => ?_
            refine JS.run 2 (by kernel_rfl) ?_
            refine JS.buildSlice (c := (iD .i64)) ([x9] : List Int) (by kernel_rfl) (by kernel_rfl) (by kernel_rfl) (by kernel_rfl) (by kernel_rfl) (fun id29 => ?_)
            refine JS.appT (c := (iD .i64)) (l := x10) (k := ([x9] : List Int)) (o := o11) 0 (by kernel_rfl) (by kernel_rfl) (srcT (c := (iD .i64)) (l := ([x9] : List Int)) (o := (some id29)) 1 (by kernel_rfl) (by kernel_rfl)) (by kernel_rfl) (by kernel_rfl) (by kernel_rfl) (fun o30 => ?_)
            refine JS.run 1 (by kernel_rfl) ?_
            refine JS.nil ?_
            refine JC.drop 1 ?_
            refine JC.to2 [(1, .x (.int .i64 a1)), (5, .ref o30 0 ((x10 ++ ([x9] : List Int)).length)), (11, .c 1 (.lst 5 (a0.map NodeT.D))), (12, .x (.int .i64 ((a0.length : Nat) : Int))), (13, .x (.int .i64 x9))] [⟨o30, 1, vl (iD .i64) (x10 ++ ([x9] : List Int))⟩] (by kernel_rfl) (by kernel_rfl) ?_
            refine JC.skipB ?_
            refine JC.to2 [(1, .x (.int .i64 a1)), (5, .ref o30 0 ((x10 ++ ([x9] : List Int)).length)), (11, .c 1 (.lst 5 (a0.map NodeT.D))), (12, .x (.int .i64 ((a0.length : Nat) : Int))), (13, .x (.int .i64 x9))] [⟨o30, 1, vl (iD .i64) (x10 ++ ([x9] : List Int))⟩] (by kernel_rfl) (by kernel_rfl) ?_
            exact JC.got (ex := .normal) rfl ⟨o30, rfl, rfl, rfl⟩
          · refine JC.skipB ?_
            refine JC.to2 [(1, .x (.int .i64 a1)), (5, .ref o11 0 x10.length), (11, .c 1 (.lst 5 (a0.map NodeT.D))), (12, .x (.int .i64 ((a0.length : Nat) : Int))), (13, .x (.int .i64 x9))] [⟨o11, 1, vl (iD .i64) x10⟩] (by kernel_rfl) (by kernel_rfl) ?_
            exact JC.got (ex := .normal) rfl ⟨o11, rfl, rfl, rfl⟩
      · rintro y16 ex E' R' hA
        obtain ⟨o17, rfl, rfl, rfl⟩ := hA
        refine JC.to2 [(1, .x (.int .i64 a1)), (5, .ref o17 0 y16.length), (11, .c 1 (.lst 5 (a0.map NodeT.D))), (12, .x (.int .i64 ((a0.length : Nat) : Int))), (13, .x (.int .i64 x9))] [⟨o17, 1, vl (iD .i64) y16⟩] (by kernel_rfl) (by kernel_rfl) ?_
        refine JC.skipT ?_
        refine JC.region fun b31 => ?_
        refine JS.run 2 (by kernel_rfl) ?_
        refine JS.nil ?_
        refine JC.to2 [(1, .x (.int .i64 a1)), (5, .ref o17 0 y16.length), (11, .c 1 (.lst 5 (a0.map NodeT.D))), (12, .x (.int .i64 ((a0.length : Nat) : Int))), (13, .x (.int .i64 (IntKind.i64.wrap (x9 + (1 : Int)))))] [⟨o17, 1, vl (iD .i64) y16⟩] (by kernel_rfl) (by kernel_rfl) ?_
        refine JC.skipL ?_
        refine JC.to2 [(1, .x (.int .i64 a1)), (5, .ref o17 0 y16.length), (11, .c 1 (.lst 5 (a0.map NodeT.D))), (12, .x (.int .i64 ((a0.length : Nat) : Int))), (13, .x (.int .i64 (IntKind.i64.wrap (x9 + (1 : Int)))))] [⟨o17, 1, vl (iD .i64) y16⟩] (by kernel_rfl) (by kernel_rfl) ?_
        exact ih (IntKind.i64.wrap (x9 + (1 : Int))) y16 o17
    · refine JC.exitT ?_
      refine JC.exitL ?_
      refine JC.to2 [(5, .ref o11 0 x10.length)] [⟨o11, 1, vl (iD .i64) x10⟩] (by kernel_rfl) (by kernel_rfl) ?_
      exact JC.got (ex := (.exit 0)) rfl ⟨o11, rfl, rfl, rfl⟩
def tree_Path (k : Nat) (a0 : (List NodeT)) (a1 : Int) : Option (List Int) :=
  (tree_May k a0).bind fun r3 => cond (!r3) (some ([] : (List Int))) ((tree_Path_l0 a0 a1 k (0 : Int) ([] : List Int)).bind fun y12 => some y12)
theorem tree_Path_ok (k : Nat) (a0 : (List NodeT)) (a1 : Int) : ∀ r, tree_Path k a0 a1 = some r → CallOk prog 112 [.c 1 (.lst 5 (a0.map NodeT.D)), .x (.int .i64 a1)] false [.own 1 (vl (iD .i64) r)] := by
  refine CallOk.of' (pf := pf112) (ts := [4]) (Res := fun (r : (List Int)) => [.own 1 (vl (iD .i64) r)]) rfl rfl rfl rfl ?_
  unfold tree_Path pf112
  refine JC.seq ?_
  refine JC.region fun b1 => ?_
  refine JS.run 1 (by kernel_rfl) ?_
  refine JS.nil ?_
  refine JC.to2 [(0, .c 1 (.lst 5 (a0.map NodeT.D))), (1, .x (.int .i64 a1))] [] (by kernel_rfl) (by kernel_rfl) ?_
  refine JC.skipT ?_
  refine JC.seq ?_
  refine JC.seq ?_
  refine JC.region fun b2 => ?_
  refine JS.run 1 (by kernel_rfl) ?_
  refine JS.bind fun r3 h4 => ?_
  refine JS.callS [] (tree_May_ok k a0 r3 h4) ⟨rfl, argC (n := 1) (by kernel_rfl) (by kernel_rfl) (by kernel_rfl), trivial⟩ (by kernel_rfl) (by kernel_rfl) (by kernel_rfl) ?_
  refine JS.run 1 (by kernel_rfl) ?_
  refine JS.nil ?_
  refine JC.to2 [(0, .c 1 (.lst 5 (a0.map NodeT.D))), (1, .x (.int .i64 a1)), (10, .x (.bool (!r3)))] [] (by kernel_rfl) (by kernel_rfl) ?_
  refine JC.skipT ?_
  refine JC.cond (e := (!r3)) (by kernel_rfl) (fun h5 => ?_) (fun h5 => ?_)
  · refine JC.seq ?_
    refine JC.region fun b6 => ?_
    refine JS.run 1 (by kernel_rfl) ?_
    refine JS.nil ?_
    refine JC.to2 [(4, .x .nil)] [] (by kernel_rfl) (by kernel_rfl) ?_
    refine JC.skipT ?_
    refine JC.retT ?_
    exact JC.fin (ex := .ret) (vs := [.x .nil]) (is := []) rfl ret_ne (by kernel_rfl) (Outs.nl Outs.nil)
  · refine JC.skipT ?_
    refine JC.seq ?_
    refine JC.region fun b7 => ?_
    refine JS.run 1 (by kernel_rfl) ?_
    refine JS.nil ?_
    refine JC.to2 [(0, .c 1 (.lst 5 (a0.map NodeT.D))), (1, .x (.int .i64 a1)), (5, .x .nil)] [] (by kernel_rfl) (by kernel_rfl) ?_
    refine JC.skipT ?_
    refine JC.seq ?_
    refine JC.seq ?_
    refine JC.region fun b8 => ?_
    refine JS.run 1 (by kernel_rfl) ?_
    refine JS.lenC (c := NodeT.D) (l := a0) (n := 1) (sz := 5) (by kernel_rfl) (by kernel_rfl) (by kernel_rfl) ?_
    refine JS.run 1 (by kernel_rfl) ?_
    refine JS.nil ?_
    refine JC.to2 [(1, .x (.int .i64 a1)), (5, .x .nil), (11, .c 1 (.lst 5 (a0.map NodeT.D))), (12, .x (.int .i64 ((a0.length : Nat) : Int))), (13, .x (.int .i64 (0 : Int)))] [] (by kernel_rfl) (by kernel_rfl) ?_
    refine JC.skipT ?_
    refine JC.block ?_
    refine JC.to2 [(1, .x (.int .i64 a1)), (5, .x .nil), (11, .c 1 (.lst 5 (a0.map NodeT.D))), (12, .x (.int .i64 ((a0.length : Nat) : Int))), (13, .x (.int .i64 (0 : Int)))] [] (by kernel_rfl) (by kernel_rfl) ?_
    refine JC.virt 5 1 (by kernel_rfl) ?_
    refine JC.to2 [(1, .x (.int .i64 a1)), (5, .ref none 0 (([] : List Int).length)), (11, .c 1 (.lst 5 (a0.map NodeT.D))), (12, .x (.int .i64 ((a0.length : Nat) : Int))), (13, .x (.int .i64 (0 : Int)))] [⟨none, 1, vl (iD .i64) ([] : List Int)⟩] (by kernel_rfl) (by kernel_rfl) ?_
    refine JC.bind (A := fun v ex E R => ∃ (o13 : Option Nat), ex = (.exit 0) ∧ E = [(5, .ref o13 0 v.length)] ∧ R = [⟨o13, 1, vl (iD .i64) v⟩]) (tree_Path_l0_ok a0 a1 k (0 : Int) ([] : List Int) none) ?_
    rintro y12 ex E' R' hA
    obtain ⟨o13, rfl, rfl, rfl⟩ := hA
    refine JC.to2 [(5, .ref o13 0 y12.length)] [⟨o13, 1, vl (iD .i64) y12⟩] (by kernel_rfl) (by kernel_rfl) ?_
    refine JC.exitB ?_
    refine JC.skipT ?_
    refine JC.seq ?_
    refine JC.region fun b32 => ?_
    refine JS.run 2 (by kernel_rfl) ?_
    refine JS.nil ?_
    refine JC.to2 [(4, .ref o13 0 y12.length)] [⟨o13, 1, vl (iD .i64) y12⟩] (by kernel_rfl) (by kernel_rfl) ?_
    refine JC.skipT ?_
    refine JC.relen (o := o13) (off := 0) (n := y12.length) (n' := (vl (iD .i64) y12).length) 4 (by kernel_rfl) (vl_len _ _).symm ?_
    exact JC.fin (ex := .ret) (vs := [.ref o13 0 (vl (iD .i64) y12).length]) (is := [0]) rfl ret_ne (by kernel_rfl) (Outs.own (i := 0) (by kernel_rfl) (vl_out fun _ => rfl) rfl Outs.nil)
/-! slices.Clone[[]eyot/api.Node,eyot/api.Node] -/
def slices_Clone (k : Nat) (a0 : (List NodeT)) : Option (List NodeT) :=
  cond (a0.map NodeT.D).isEmpty none (room ((([] : List NodeT).length) + a0.length) 40 (some (([] : List NodeT) ++ a0)))
theorem slices_Clone_ok (k : Nat) (a0 : (List NodeT)) : ∀ r, slices_Clone k a0 = some r → CallOk prog 120 [.c 1 (.lst 5 (a0.map NodeT.D))] false [.own 5 (vl NodeT.D r)] := by
  refine CallOk.of' (pf := pf120) (ts := [2]) (Res := fun (r : (List NodeT)) => [.own 5 (vl NodeT.D r)]) rfl rfl rfl rfl ?_
  unfold slices_Clone pf120
  refine JC.seq ?_
  refine JC.region fun b1 => ?_
  refine JS.run 1 (by kernel_rfl) ?_
  refine JS.nil ?_
  refine JC.to2 [(0, .c 1 (.lst 5 (a0.map NodeT.D)))] [] (by kernel_rfl) (by kernel_rfl) ?_
  refine JC.skipT ?_
  refine JC.seq ?_
  refine JC.seq ?_
  refine JC.region fun b2 => ?_
  refine JS.run 1 (by kernel_rfl) ?_
  refine JS.eqNS (n := 1) (sz := 5) (es := (a0.map NodeT.D)) (by kernel_rfl) (by kernel_rfl) (by kernel_rfl) (fun h3 => ?_)
  refine JS.nil ?_
  refine JC.to2 [(0, .c 1 (.lst 5 (a0.map NodeT.D))), (4, .x (.bool false))] [] (by kernel_rfl) (by kernel_rfl) ?_
  refine JC.skipT ?_
  refine JC.condF (by kernel_rfl) ?_
  refine JC.skipT ?_
  refine JC.seq ?_
  refine JC.region fun b4 => ?_
  refine JS.buildSlice (c := NodeT.D) ([] : List NodeT) (by kernel_rfl) (by kernel_rfl) (by kernel_rfl) (by kernel_rfl) (by kernel_rfl) (fun id5 => ?_)
  refine JS.run 1 (by kernel_rfl) ?_
  refine JS.appT (c := NodeT.D) (l := ([] : List NodeT)) (k := a0) (o := (some id5)) 0 (by kernel_rfl) (by kernel_rfl) (srcC (c := NodeT.D) (l := a0) (n := 1) (by kernel_rfl) (fun _ => rfl) (fun _ _ => rfl)) (by kernel_rfl) (by kernel_rfl) (by kernel_rfl) (fun o6 => ?_)
  refine JS.run 1 (by kernel_rfl) ?_
  refine JS.nil ?_
  refine JC.to2 [(2, .ref o6 0 ((([] : List NodeT) ++ a0).length))] [⟨o6, 5, vl NodeT.D (([] : List NodeT) ++ a0)⟩] (by kernel_rfl) (by kernel_rfl) ?_
  refine JC.skipT ?_
  refine JC.relen (o := o6) (off := 0) (n := (([] : List NodeT) ++ a0).length) (n' := (vl NodeT.D (([] : List NodeT) ++ a0)).length) 2 (by kernel_rfl) (vl_len _ _).symm ?_
  exact JC.fin (ex := .ret) (vs := [.ref o6 0 (vl NodeT.D (([] : List NodeT) ++ a0)).length]) (is := [0]) rfl ret_ne (by kernel_rfl) (Outs.own (i := 0) (by kernel_rfl) (vl_out fun _ => rfl) rfl Outs.nil)
/-! slices.Equal[[]eyot/api.Node,eyot/api.Node] -/
def slices_Equal_l0 (a0 : (List NodeT)) (a1 : (List NodeT)) : Nat → Int → Option (Unit ⊕ Unit)
  | 0, _ => none
  | k + 1, x6 => cond (decide (x6 < ((a0.length : Nat) : Int))) ((at? a0 x6).bind fun a11 => (at? a1 x6).bind fun a13 => cond (!eqDs [(.int .i64 a11.Depth), (.int .i64 a11.Rule), (.int .i64 a11.Token), (.int .i64 a11.from_), (.int .i64 a11.to_)] [(.int .i64 a13.Depth), (.int .i64 a13.Rule), (.int .i64 a13.Token), (.int .i64 a13.from_), (.int .i64 a13.to_)]) (some (Sum.inr ())) (slices_Equal_l0 a0 a1 k (IntKind.i64.wrap (x6 + (1 : Int))))) (some (Sum.inl ()))
theorem slices_Equal_l0_ok (a0 : (List NodeT)) (a1 : (List NodeT))  : ∀ (k : Nat) (x6 : Int), JC prog noFr 26 [(0, .c 1 (.lst 5 (a0.map NodeT.D))), (1, .c 1 (.lst 5 (a1.map NodeT.D))), (12, .x (.int .i64 ((a0.length : Nat) : Int))), (13, .x (.int .i64 x6))] [] (.loop pf121_L0) (slices_Equal_l0 a0 a1 k x6) (fun x => GotA 26 noFr ((fun v ex E R => match v with | Sum.inl v => ex = (.exit 0) ∧ E = [] ∧ R = [] | Sum.inr v => ex = .ret ∧ E = [(4, .x (.bool false))] ∧ R = []) x)) := by
  intro k
  induction k with
  | zero =>
    intro x6
    exact JC.no
  | succ k ih =>
    intro x6
    rw [slices_Equal_l0]
    refine JC.loop ?_
    refine JC.seq ?_
    refine JC.region fun b7 => ?_
    refine JS.run 1 (by kernel_rfl) ?_
    refine JS.nil ?_
    refine JC.to2 [(0, .c 1 (.lst 5 (a0.map NodeT.D))), (1, .c 1 (.lst 5 (a1.map NodeT.D))), (12, .x (.int .i64 ((a0.length : Nat) : Int))), (13, .x (.int .i64 x6)), (14, .x (.bool (decide (x6 < ((a0.length : Nat) : Int)))))] [] (by kernel_rfl) (by kernel_rfl) ?_
    refine JC.skipT ?_
    refine JC.seq ?_
    refine JC.cond (e := (decide (x6 < ((a0.length : Nat) : Int)))) (by kernel_rfl) (fun h8 => ?_) (fun h8 => ?_)
    · refine JC.skipT ?_
      refine JC.seq ?_
      refine JC.block ?_
      refine JC.seq ?_
      refine JC.region fun b9 => ?_
      refine JS.run 2 (by kernel_rfl) ?_
      refine JS.nil ?_
      refine JC.to2 [(0, .c 1 (.lst 5 (a0.map NodeT.D))), (1, .c 1 (.lst 5 (a1.map NodeT.D))), (5, .x (.int .i64 x6)), (12, .x (.int .i64 ((a0.length : Nat) : Int))), (13, .x (.int .i64 x6))] [] (by kernel_rfl) (by kernel_rfl) ?_
      refine JC.skipT ?_
      refine JC.seq ?_
      refine JC.region fun b10 => ?_
      refine JS.run 2 (by kernel_rfl) ?_
      refine JS.idxC (c := NodeT.D) (l := a0) (n := 1) (kk := .i64) (z := x6) (by kernel_rfl) (by kernel_rfl) (by kernel_rfl) (by kernel_rfl) (fun a11 h12 => ?_)
      refine JS.run 3 (by kernel_rfl) ?_
      refine JS.idxC (c := NodeT.D) (l := a1) (n := 1) (kk := .i64) (z := x6) (by kernel_rfl) (by kernel_rfl) (by kernel_rfl) (by kernel_rfl) (fun a13 h14 => ?_)
      refine JS.run 1 (by kernel_rfl) ?_
      refine JS.eqA (as := [(.int .i64 a11.Depth), (.int .i64 a11.Rule), (.int .i64 a11.Token), (.int .i64 a11.from_), (.int .i64 a11.to_)]) (cs := [(.int .i64 a13.Depth), (.int .i64 a13.Rule), (.int .i64 a13.Token), (.int .i64 a13.from_), (.int .i64 a13.to_)]) (by kernel_rfl) (by kernel_rfl) (by kernel_rfl) (by kernel_rfl) (by kernel_rfl) ?_
      refine JS.nil ?_
      refine JC.to2 [(0, .c 1 (.lst 5 (a0.map NodeT.D))), (1, .c 1 (.lst 5 (a1.map NodeT.D))), (12, .x (.int .i64 ((a0.length : Nat) : Int))), (13, .x (.int .i64 x6)), (24, .x (.bool (!eqDs [(.int .i64 a11.Depth), (.int .i64 a11.Rule), (.int .i64 a11.Token), (.int .i64 a11.from_), (.int .i64 a11.to_)] [(.int .i64 a13.Depth), (.int .i64 a13.Rule), (.int .i64 a13.Token), (.int .i64 a13.from_), (.int .i64 a13.to_)])))] [] (by kernel_rfl) (by kernel_rfl) ?_
      refine JC.skipT ?_
      refine JC.cond (e := (!eqDs [(.int .i64 a11.Depth), (.int .i64 a11.Rule), (.int .i64 a11.Token), (.int .i64 a11.from_), (.int .i64 a11.to_)] [(.int .i64 a13.Depth), (.int .i64 a13.Rule), (.int .i64 a13.Token), (.int .i64 a13.from_), (.int .i64 a13.to_)])) (by kernel_rfl) (fun h15 => ?_) (fun h15 => ?_)
      · refine JC.seq ?_
        refine JC.region fun b16 => ?_
        refine JS.run 1 (by kernel_rfl) ?_
        refine JS.nil ?_
        refine JC.to2 [(4, .x (.bool false))] [] (by kernel_rfl) (by kernel_rfl) ?_
        refine JC.skipT ?_
        refine JC.retB ?_
        refine JC.retT ?_
        refine JC.retL ?_
        refine JC.to2 [(4, .x (.bool false))] [] (by kernel_rfl) (by kernel_rfl) ?_
        exact JC.got (ex := .ret) rfl ⟨rfl, rfl, rfl⟩
      · refine JC.skipB ?_
        refine JC.skipT ?_
        refine JC.region fun b17 => ?_
        refine JS.run 2 (by kernel_rfl) ?_
        refine JS.nil ?_
        refine JC.to2 [(0, .c 1 (.lst 5 (a0.map NodeT.D))), (1, .c 1 (.lst 5 (a1.map NodeT.D))), (12, .x (.int .i64 ((a0.length : Nat) : Int))), (13, .x (.int .i64 (IntKind.i64.wrap (x6 + (1 : Int)))))] [] (by kernel_rfl) (by kernel_rfl) ?_
        refine JC.skipL ?_
        refine JC.to2 [(0, .c 1 (.lst 5 (a0.map NodeT.D))), (1, .c 1 (.lst 5 (a1.map NodeT.D))), (12, .x (.int .i64 ((a0.length : Nat) : Int))), (13, .x (.int .i64 (IntKind.i64.wrap (x6 + (1 : Int)))))] [] (by kernel_rfl) (by kernel_rfl) ?_
        exact ih (IntKind.i64.wrap (x6 + (1 : Int)))
    · refine JC.exitT ?_
      refine JC.exitL ?_
      refine JC.to2 [] [] (by kernel_rfl) (by kernel_rfl) ?_
      exact JC.got (ex := (.exit 0)) rfl ⟨rfl, rfl, rfl⟩
def slices_Equal (k : Nat) (a0 : (List NodeT)) (a1 : (List NodeT)) : Option Bool :=
  cond (((a0.length : Nat) : Int) != ((a1.length : Nat) : Int)) (some false) ((slices_Equal_l0 a0 a1 k (0 : Int)).bind fun v => match v with | Sum.inl _ => some true | Sum.inr _ => some false)
theorem slices_Equal_ok (k : Nat) (a0 : (List NodeT)) (a1 : (List NodeT)) : ∀ r, slices_Equal k a0 a1 = some r → CallOk prog 121 [.c 1 (.lst 5 (a0.map NodeT.D)), .c 1 (.lst 5 (a1.map NodeT.D))] false [.sc (.x (.bool r))] := by
  refine CallOk.of' (pf := pf121) (ts := [4]) (Res := fun (r : Bool) => [.sc (.x (.bool r))]) rfl rfl rfl rfl ?_
  unfold slices_Equal pf121
  refine JC.seq ?_
  refine JC.region fun b1 => ?_
  refine JS.run 1 (by kernel_rfl) ?_
  refine JS.nil ?_
  refine JC.to2 [(0, .c 1 (.lst 5 (a0.map NodeT.D))), (1, .c 1 (.lst 5 (a1.map NodeT.D)))] [] (by kernel_rfl) (by kernel_rfl) ?_
  refine JC.skipT ?_
  refine JC.seq ?_
  refine JC.seq ?_
  refine JC.region fun b2 => ?_
  refine JS.run 1 (by kernel_rfl) ?_
  refine JS.lenC (c := NodeT.D) (l := a0) (n := 1) (sz := 5) (by kernel_rfl) (by kernel_rfl) (by kernel_rfl) ?_
  refine JS.run 1 (by kernel_rfl) ?_
  refine JS.lenC (c := NodeT.D) (l := a1) (n := 1) (sz := 5) (by kernel_rfl) (by kernel_rfl) (by kernel_rfl) ?_
  refine JS.run 1 (by kernel_rfl) ?_
  refine JS.nil ?_
  refine JC.to2 [(0, .c 1 (.lst 5 (a0.map NodeT.D))), (1, .c 1 (.lst 5 (a1.map NodeT.D))), (10, .x (.bool (((a0.length : Nat) : Int) != ((a1.length : Nat) : Int))))] [] (by kernel_rfl) (by kernel_rfl) ?_
  refine JC.skipT ?_
  refine JC.cond (e := (((a0.length : Nat) : Int) != ((a1.length : Nat) : Int))) (by kernel_rfl) (fun h3 => ?_) (fun h3 => ?_)
  · refine JC.seq ?_
    refine JC.region fun b4 => ?_
    refine JS.run 1 (by kernel_rfl) ?_
    refine JS.nil ?_
    refine JC.to2 [(4, .x (.bool false))] [] (by kernel_rfl) (by kernel_rfl) ?_
    refine JC.skipT ?_
    refine JC.retT ?_
    exact JC.fin (ex := .ret) (vs := [.x (.bool false)]) (is := []) rfl ret_ne (by kernel_rfl) (Outs.sc rfl Outs.nil)
  · refine JC.skipT ?_
    refine JC.seq ?_
    refine JC.seq ?_
    refine JC.region fun b5 => ?_
    refine JS.run 1 (by kernel_rfl) ?_
    refine JS.lenC (c := NodeT.D) (l := a0) (n := 1) (sz := 5) (by kernel_rfl) (by kernel_rfl) (by kernel_rfl) ?_
    refine JS.run 1 (by kernel_rfl) ?_
    refine JS.nil ?_
    refine JC.to2 [(0, .c 1 (.lst 5 (a0.map NodeT.D))), (1, .c 1 (.lst 5 (a1.map NodeT.D))), (12, .x (.int .i64 ((a0.length : Nat) : Int))), (13, .x (.int .i64 (0 : Int)))] [] (by kernel_rfl) (by kernel_rfl) ?_
    refine JC.skipT ?_
    refine JC.block ?_
    refine JC.to2 [(0, .c 1 (.lst 5 (a0.map NodeT.D))), (1, .c 1 (.lst 5 (a1.map NodeT.D))), (12, .x (.int .i64 ((a0.length : Nat) : Int))), (13, .x (.int .i64 (0 : Int)))] [] (by kernel_rfl) (by kernel_rfl) ?_
    refine JC.to2 [(0, .c 1 (.lst 5 (a0.map NodeT.D))), (1, .c 1 (.lst 5 (a1.map NodeT.D))), (12, .x (.int .i64 ((a0.length : Nat) : Int))), (13, .x (.int .i64 (0 : Int)))] [] (by kernel_rfl) (by kernel_rfl) ?_
    refine JC.bind (A := fun v ex E R => match v with | Sum.inl v => ex = (.exit 0) ∧ E = [] ∧ R = [] | Sum.inr v => ex = .ret ∧ E = [(4, .x (.bool false))] ∧ R = []) (slices_Equal_l0_ok a0 a1 k (0 : Int)) ?_
    rintro v ex E' R' hA
    rcases v with _ | _
    · obtain ⟨rfl, rfl, rfl⟩ := hA
      refine JC.to2 [] [] (by kernel_rfl) (by kernel_rfl) ?_
      refine JC.exitB ?_
      refine JC.skipT ?_
      refine JC.seq ?_
      refine JC.region fun b18 => ?_
      refine JS.run 1 (by kernel_rfl) ?_
      refine JS.nil ?_
      refine JC.to2 [(4, .x (.bool true))] [] (by kernel_rfl) (by kernel_rfl) ?_
      refine JC.skipT ?_
      exact JC.fin (ex := .ret) (vs := [.x (.bool true)]) (is := []) rfl ret_ne (by kernel_rfl) (Outs.sc rfl Outs.nil)
    · obtain ⟨rfl, rfl, rfl⟩ := hA
      refine JC.to2 [(4, .x (.bool false))] [] (by kernel_rfl) (by kernel_rfl) ?_
      refine JC.retB ?_
      refine JC.retT ?_
      exact JC.fin (ex := .ret) (vs := [.x (.bool false)]) (is := []) rfl ret_ne (by kernel_rfl) (Outs.sc rfl Outs.nil)
/-! eyot/tree.Move -/
def tree_Move_l0 (a1 : Int) (r3 : (List NodeT)) : Nat → Int → (List NodeT) → Option (List NodeT)
  | 0, _, _ => none
  | k + 1, x7, x8 => cond (decide (x7 < ((r3.length : Nat) : Int))) ((at? x8 x7).bind fun a16 => (at? x8 x7).bind fun a20 => (at? (List.set x8 x7.toNat (⟨a20.Depth, a20.Rule, a20.Token, (IntKind.i64.wrap (a16.from_ + a1)), a20.to_⟩ : NodeT)) x7).bind fun a25 => (at? (List.set x8 x7.toNat (⟨a20.Depth, a20.Rule, a20.Token, (IntKind.i64.wrap (a16.from_ + a1)), a20.to_⟩ : NodeT)) x7).bind fun a29 => tree_Move_l0 a1 r3 k (IntKind.i64.wrap (x7 + (1 : Int))) (List.set (List.set x8 x7.toNat (⟨a20.Depth, a20.Rule, a20.Token, (IntKind.i64.wrap (a16.from_ + a1)), a20.to_⟩ : NodeT)) x7.toNat (⟨a29.Depth, a29.Rule, a29.Token, a29.from_, (IntKind.i64.wrap (a25.to_ + a1))⟩ : NodeT))) (some x8)
theorem tree_Move_l0_ok (a1 : Int) (r3 : (List NodeT))  : ∀ (k : Nat) (x7 : Int) (x8 : (List NodeT)) (o9 : Option Nat), JC prog noFr 34 [(1, .x (.int .i64 a1)), (5, .ref o9 0 x8.length), (10, .x (.int .i64 ((r3.length : Nat) : Int))), (11, .x (.int .i64 x7))] [⟨o9, 5, vl NodeT.D x8⟩] (.loop pf115_L0) (tree_Move_l0 a1 r3 k x7 x8) (fun x => GotA 34 noFr ((fun v ex E R => ∃ (o11 : Option Nat), ex = (.exit 0) ∧ E = [(5, .ref o11 0 v.length)] ∧ R = [⟨o11, 5, vl NodeT.D v⟩]) x)) := by
  intro k
  induction k with
  | zero =>
    intro x7 x8 o9
    exact JC.no
  | succ k ih =>
    intro x7 x8 o9
    rw [tree_Move_l0]
    refine JC.loop ?_
    refine JC.seq ?_
    refine JC.region fun b12 => ?_
    refine JS.run 1 (by kernel_rfl) ?_
    refine JS.nil ?_
    refine JC.to2 [(1, .x (.int .i64 a1)), (5, .ref o9 0 x8.length), (10, .x (.int .i64 ((r3.length : Nat) : Int))), (11, .x (.int .i64 x7)), (12, .x (.bool (decide (x7 < ((r3.length : Nat) : Int)))))] [⟨o9, 5, vl NodeT.D x8⟩] (by kernel_rfl) (by kernel_rfl) ?_
    refine JC.skipT ?_
    refine JC.seq ?_
    refine JC.cond (e := (decide (x7 < ((r3.length : Nat) : Int)))) (by kernel_rfl) (fun h13 => ?_) (fun h13 => ?_)
    · refine JC.skipT ?_
      refine JC.seq ?_
      refine JC.block ?_
      refine JC.seq ?_
      refine JC.region fun b14 => ?_
      refine JS.run 2 (by kernel_rfl) ?_
      refine JS.nil ?_
      refine JC.to2 [(1, .x (.int .i64 a1)), (5, .ref o9 0 x8.length), (6, .x (.int .i64 x7)), (10, .x (.int .i64 ((r3.length : Nat) : Int))), (11, .x (.int .i64 x7))] [⟨o9, 5, vl NodeT.D x8⟩] (by kernel_rfl) (by kernel_rfl) ?_
      refine JC.skipT ?_
      refine JC.seq ?_
      refine JC.region fun b15 => ?_
      refine JS.run 2 (by kernel_rfl) ?_
      refine JS.idxT (c := NodeT.D) (l := x8) (o := o9) (kk := .i64) (z := x7) 0 (by kernel_rfl) (by kernel_rfl) (by kernel_rfl) (by kernel_rfl) (by kernel_rfl) (fun id18 a16 e19 h17 => ?_)
      subst e19
      refine JS.run 1 (by kernel_rfl) ?_
      refine JS.loadO (id := id18) (sz := 5) (p := x7.toNat) (j := 3) (es := (vl NodeT.D x8)) (e := (cv NodeT.D a16)) 0 (by kernel_rfl) (vl_get h17) (by kernel_rfl) (by kernel_rfl) (by kernel_rfl) (by kernel_rfl) ?_
      refine JS.run 2 (by kernel_rfl) ?_
      refine JS.idxT (c := NodeT.D) (l := x8) (o := (some id18)) (kk := .i64) (z := x7) 0 (by kernel_rfl) (by kernel_rfl) (by kernel_rfl) (by kernel_rfl) (by kernel_rfl) (fun id22 a20 e23 h21 => ?_)
      have e23' : id18 = id22 := by injection e23
      subst e23'
      refine JS.run 1 (by kernel_rfl) ?_
      refine JS.storeO (id := id18) (sz := 5) (p := x7.toNat) (j := 3) (es := (vl NodeT.D x8)) (es2 := (vl NodeT.D (List.set x8 x7.toNat (⟨a20.Depth, a20.Rule, a20.Token, (IntKind.i64.wrap (a16.from_ + a1)), a20.to_⟩ : NodeT)))) (e := (cv NodeT.D a20)) (w := .x (.int .i64 (IntKind.i64.wrap (a16.from_ + a1)))) 0 (by kernel_rfl) (vl_get h21) (by kernel_rfl) (by kernel_rfl) (by kernel_rfl) (vl_set (a := (⟨a20.Depth, a20.Rule, a20.Token, (IntKind.i64.wrap (a16.from_ + a1)), a20.to_⟩ : NodeT)) (by kernel_rfl)) (by kernel_rfl) ?_
      refine JS.nil ?_
      refine JC.to2 [(1, .x (.int .i64 a1)), (5, .ref (some id18) 0 x8.length), (6, .x (.int .i64 x7)), (10, .x (.int .i64 ((r3.length : Nat) : Int))), (11, .x (.int .i64 x7))] [⟨(some id18), 5, vl NodeT.D (List.set x8 x7.toNat (⟨a20.Depth, a20.Rule, a20.Token, (IntKind.i64.wrap (a16.from_ + a1)), a20.to_⟩ : NodeT))⟩] (by kernel_rfl) (by kernel_rfl) ?_
      refine JC.skipT ?_
      refine JC.region fun b24 => ?_
      refine JS.run 2 (by kernel_rfl) ?_
      refine JS.relen (o := (some id18)) (off := 0) (n := x8.length) (n' := (List.set x8 x7.toNat (⟨a20.Depth, a20.Rule, a20.Token, (IntKind.i64.wrap (a16.from_ + a1)), a20.to_⟩ : NodeT)).length) 23 (by kernel_rfl) (by simp [vl]) ?_
      refine JS.idxT (c := NodeT.D) (l := (List.set x8 x7.toNat (⟨a20.Depth, a20.Rule, a20.Token, (IntKind.i64.wrap (a16.from_ + a1)), a20.to_⟩ : NodeT))) (o := (some id18)) (kk := .i64) (z := x7) 0 (by kernel_rfl) (by kernel_rfl) (by kernel_rfl) (by kernel_rfl) (by kernel_rfl) (fun id27 a25 e28 h26 => ?_)
      have e28' : id18 = id27 := by injection e28
      subst e28'
      refine JS.run 1 (by kernel_rfl) ?_
      refine JS.loadO (id := id18) (sz := 5) (p := x7.toNat) (j := 4) (es := (vl NodeT.D (List.set x8 x7.toNat (⟨a20.Depth, a20.Rule, a20.Token, (IntKind.i64.wrap (a16.from_ + a1)), a20.to_⟩ : NodeT)))) (e := (cv NodeT.D a25)) 0 (by kernel_rfl) (vl_get h26) (by kernel_rfl) (by kernel_rfl) (by kernel_rfl) (by kernel_rfl) ?_
      refine JS.run 2 (by kernel_rfl) ?_
      refine JS.idxT (c := NodeT.D) (l := (List.set x8 x7.toNat (⟨a20.Depth, a20.Rule, a20.Token, (IntKind.i64.wrap (a16.from_ + a1)), a20.to_⟩ : NodeT))) (o := (some id18)) (kk := .i64) (z := x7) 0 (by kernel_rfl) (by kernel_rfl) (by kernel_rfl) (by kernel_rfl) (by kernel_rfl) (fun id31 a29 e32 h30 => ?_)
      have e32' : id18 = id31 := by injection e32
      subst e32'
      refine JS.run 1 (by kernel_rfl) ?_
      refine JS.storeO (id := id18) (sz := 5) (p := x7.toNat) (j := 4) (es := (vl NodeT.D (List.set x8 x7.toNat (⟨a20.Depth, a20.Rule, a20.Token, (IntKind.i64.wrap (a16.from_ + a1)), a20.to_⟩ : NodeT)))) (es2 := (vl NodeT.D (List.set (List.set x8 x7.toNat (⟨a20.Depth, a20.Rule, a20.Token, (IntKind.i64.wrap (a16.from_ + a1)), a20.to_⟩ : NodeT)) x7.toNat (⟨a29.Depth, a29.Rule, a29.Token, a29.from_, (IntKind.i64.wrap (a25.to_ + a1))⟩ : NodeT)))) (e := (cv NodeT.D a29)) (w := .x (.int .i64 (IntKind.i64.wrap (a25.to_ + a1)))) 0 (by kernel_rfl) (vl_get h30) (by kernel_rfl) (by kernel_rfl) (by kernel_rfl) (vl_set (a := (⟨a29.Depth, a29.Rule, a29.Token, a29.from_, (IntKind.i64.wrap (a25.to_ + a1))⟩ : NodeT)) (by kernel_rfl)) (by kernel_rfl) ?_
      refine JS.nil ?_
      refine JC.to2 [(1, .x (.int .i64 a1)), (5, .ref (some id18) 0 x8.length), (10, .x (.int .i64 ((r3.length : Nat) : Int))), (11, .x (.int .i64 x7))] [⟨(some id18), 5, vl NodeT.D (List.set (List.set x8 x7.toNat (⟨a20.Depth, a20.Rule, a20.Token, (IntKind.i64.wrap (a16.from_ + a1)), a20.to_⟩ : NodeT)) x7.toNat (⟨a29.Depth, a29.Rule, a29.Token, a29.from_, (IntKind.i64.wrap (a25.to_ + a1))⟩ : NodeT))⟩] (by kernel_rfl) (by kernel_rfl) ?_
      refine JC.skipB ?_
      refine JC.skipT ?_
      refine JC.region fun b33 => ?_
      refine JS.run 2 (by kernel_rfl) ?_
      refine JS.nil ?_
      refine JC.to2 [(1, .x (.int .i64 a1)), (5, .ref (some id18) 0 x8.length), (10, .x (.int .i64 ((r3.length : Nat) : Int))), (11, .x (.int .i64 (IntKind.i64.wrap (x7 + (1 : Int)))))] [⟨(some id18), 5, vl NodeT.D (List.set (List.set x8 x7.toNat (⟨a20.Depth, a20.Rule, a20.Token, (IntKind.i64.wrap (a16.from_ + a1)), a20.to_⟩ : NodeT)) x7.toNat (⟨a29.Depth, a29.Rule, a29.Token, a29.from_, (IntKind.i64.wrap (a25.to_ + a1))⟩ : NodeT))⟩] (by kernel_rfl) (by kernel_rfl) ?_
      refine JC.skipL ?_
      refine JC.relen (o := (some id18)) (off := 0) (n := x8.length) (n' := (List.set (List.set x8 x7.toNat (⟨a20.Depth, a20.Rule, a20.Token, (IntKind.i64.wrap (a16.from_ + a1)), a20.to_⟩ : NodeT)) x7.toNat (⟨a29.Depth, a29.Rule, a29.Token, a29.from_, (IntKind.i64.wrap (a25.to_ + a1))⟩ : NodeT)).length) 5 (by kernel_rfl) (by simp [vl]) ?_
      refine JC.to2 [(1, .x (.int .i64 a1)), (5, .ref (some id18) 0 ((List.set (List.set x8 x7.toNat (⟨a20.Depth, a20.Rule, a20.Token, (IntKind.i64.wrap (a16.from_ + a1)), a20.to_⟩ : NodeT)) x7.toNat (⟨a29.Depth, a29.Rule, a29.Token, a29.from_, (IntKind.i64.wrap (a25.to_ + a1))⟩ : NodeT)).length)), (10, .x (.int .i64 ((r3.length : Nat) : Int))), (11, .x (.int .i64 (IntKind.i64.wrap (x7 + (1 : Int)))))] [⟨(some id18), 5, vl NodeT.D (List.set (List.set x8 x7.toNat (⟨a20.Depth, a20.Rule, a20.Token, (IntKind.i64.wrap (a16.from_ + a1)), a20.to_⟩ : NodeT)) x7.toNat (⟨a29.Depth, a29.Rule, a29.Token, a29.from_, (IntKind.i64.wrap (a25.to_ + a1))⟩ : NodeT))⟩] (by kernel_rfl) (by kernel_rfl) ?_
      exact ih (IntKind.i64.wrap (x7 + (1 : Int))) (List.set (List.set x8 x7.toNat (⟨a20.Depth, a20.Rule, a20.Token, (IntKind.i64.wrap (a16.from_ + a1)), a20.to_⟩ : NodeT)) x7.toNat (⟨a29.Depth, a29.Rule, a29.Token, a29.from_, (IntKind.i64.wrap (a25.to_ + a1))⟩ : NodeT)) (some id18)
    · refine JC.exitT ?_
      refine JC.exitL ?_
      refine JC.to2 [(5, .ref o9 0 x8.length)] [⟨o9, 5, vl NodeT.D x8⟩] (by kernel_rfl) (by kernel_rfl) ?_
      exact JC.got (ex := (.exit 0)) rfl ⟨o9, rfl, rfl, rfl⟩
def tree_Move (k : Nat) (a0 : (List NodeT)) (a1 : Int) : Option (List NodeT) :=
  (slices_Clone k a0).bind fun r3 => (tree_Move_l0 a1 r3 k (0 : Int) r3).bind fun y10 => some y10
theorem tree_Move_ok (k : Nat) (a0 : (List NodeT)) (a1 : Int) : ∀ r, tree_Move k a0 a1 = some r → CallOk prog 115 [.c 1 (.lst 5 (a0.map NodeT.D)), .x (.int .i64 a1)] false [.own 5 (vl NodeT.D r)] := by
  refine CallOk.of' (pf := pf115) (ts := [4]) (Res := fun (r : (List NodeT)) => [.own 5 (vl NodeT.D r)]) rfl rfl rfl rfl ?_
  unfold tree_Move pf115
  refine JC.seq ?_
  refine JC.region fun b1 => ?_
  refine JS.run 1 (by kernel_rfl) ?_
  refine JS.nil ?_
  refine JC.to2 [(0, .c 1 (.lst 5 (a0.map NodeT.D))), (1, .x (.int .i64 a1))] [] (by kernel_rfl) (by kernel_rfl) ?_
  refine JC.skipT ?_
  refine JC.seq ?_
  refine JC.region fun b2 => ?_
  refine JS.run 1 (by kernel_rfl) ?_
  refine JS.bind fun r3 h4 => ?_
  refine JS.callK1 [] (slices_Clone_ok k a0 r3 h4) ⟨rfl, argC (n := 1) (by kernel_rfl) (by kernel_rfl) (by kernel_rfl), trivial⟩ ⟨vl_sc (fun _ => rfl), trivial⟩ (by kernel_rfl) (by kernel_rfl) (by kernel_rfl) (by kernel_rfl) (fun o5 => ?_)
  refine JS.relen (o := o5) (off := 0) (n := (vl NodeT.D r3).length) (n' := r3.length) 8 (by kernel_rfl) (vl_len _ _) ?_
  refine JS.run 1 (by kernel_rfl) ?_
  refine JS.nil ?_
  refine JC.to2 [(1, .x (.int .i64 a1)), (5, .ref o5 0 r3.length)] [⟨o5, 5, vl NodeT.D r3⟩] (by kernel_rfl) (by kernel_rfl) ?_
  refine JC.skipT ?_
  refine JC.seq ?_
  refine JC.seq ?_
  refine JC.region fun b6 => ?_
  refine JS.run 3 (by kernel_rfl) ?_
  refine JS.nil ?_
  refine JC.to2 [(1, .x (.int .i64 a1)), (5, .ref o5 0 r3.length), (10, .x (.int .i64 ((r3.length : Nat) : Int))), (11, .x (.int .i64 (0 : Int)))] [⟨o5, 5, vl NodeT.D r3⟩] (by kernel_rfl) (by kernel_rfl) ?_
  refine JC.skipT ?_
  refine JC.block ?_
  refine JC.to2 [(1, .x (.int .i64 a1)), (5, .ref o5 0 r3.length), (10, .x (.int .i64 ((r3.length : Nat) : Int))), (11, .x (.int .i64 (0 : Int)))] [⟨o5, 5, vl NodeT.D r3⟩] (by kernel_rfl) (by kernel_rfl) ?_
  refine JC.to2 [(1, .x (.int .i64 a1)), (5, .ref o5 0 r3.length), (10, .x (.int .i64 ((r3.length : Nat) : Int))), (11, .x (.int .i64 (0 : Int)))] [⟨o5, 5, vl NodeT.D r3⟩] (by kernel_rfl) (by kernel_rfl) ?_
  refine JC.bind (A := fun v ex E R => ∃ (o11 : Option Nat), ex = (.exit 0) ∧ E = [(5, .ref o11 0 v.length)] ∧ R = [⟨o11, 5, vl NodeT.D v⟩]) (tree_Move_l0_ok a1 r3 k (0 : Int) r3 o5) ?_
  rintro y10 ex E' R' hA
  obtain ⟨o11, rfl, rfl, rfl⟩ := hA
  refine JC.to2 [(5, .ref o11 0 y10.length)] [⟨o11, 5, vl NodeT.D y10⟩] (by kernel_rfl) (by kernel_rfl) ?_
  refine JC.exitB ?_
  refine JC.skipT ?_
  refine JC.seq ?_
  refine JC.region fun b34 => ?_
  refine JS.run 2 (by kernel_rfl) ?_
  refine JS.nil ?_
  refine JC.to2 [(4, .ref o11 0 y10.length)] [⟨o11, 5, vl NodeT.D y10⟩] (by kernel_rfl) (by kernel_rfl) ?_
  refine JC.skipT ?_
  refine JC.relen (o := o11) (off := 0) (n := y10.length) (n' := (vl NodeT.D y10).length) 4 (by kernel_rfl) (vl_len _ _).symm ?_
  exact JC.fin (ex := .ret) (vs := [.ref o11 0 (vl NodeT.D y10).length]) (is := [0]) rfl ret_ne (by kernel_rfl) (Outs.own (i := 0) (by kernel_rfl) (vl_out fun _ => rfl) rfl Outs.nil)
/-! eyot/tree.Same -/
def tree_Same (k : Nat) (a0 : (List NodeT)) (a1 : (List NodeT)) : Option Bool :=
  (slices_Equal k a0 a1).bind fun r3 => some r3
theorem tree_Same_ok (k : Nat) (a0 : (List NodeT)) (a1 : (List NodeT)) : ∀ r, tree_Same k a0 a1 = some r → CallOk prog 116 [.c 1 (.lst 5 (a0.map NodeT.D)), .c 1 (.lst 5 (a1.map NodeT.D))] false [.sc (.x (.bool r))] := by
  refine CallOk.of' (pf := pf116) (ts := [4]) (Res := fun (r : Bool) => [.sc (.x (.bool r))]) rfl rfl rfl rfl ?_
  unfold tree_Same pf116
  refine JC.seq ?_
  refine JC.region fun b1 => ?_
  refine JS.run 1 (by kernel_rfl) ?_
  refine JS.nil ?_
  refine JC.to2 [(0, .c 1 (.lst 5 (a0.map NodeT.D))), (1, .c 1 (.lst 5 (a1.map NodeT.D)))] [] (by kernel_rfl) (by kernel_rfl) ?_
  refine JC.skipT ?_
  refine JC.seq ?_
  refine JC.region fun b2 => ?_
  refine JS.run 2 (by kernel_rfl) ?_
  refine JS.bind fun r3 h4 => ?_
  refine JS.callS [] (slices_Equal_ok k a0 a1 r3 h4) ⟨rfl, argC (n := 1) (by kernel_rfl) (by kernel_rfl) (by kernel_rfl), rfl, argC (n := 1) (by kernel_rfl) (by kernel_rfl) (by kernel_rfl), trivial⟩ (by kernel_rfl) (by kernel_rfl) (by kernel_rfl) ?_
  refine JS.run 1 (by kernel_rfl) ?_
  refine JS.nil ?_
  refine JC.to2 [(4, .x (.bool r3))] [] (by kernel_rfl) (by kernel_rfl) ?_
  refine JC.skipT ?_
  exact JC.fin (ex := .ret) (vs := [.x (.bool r3)]) (is := []) rfl ret_ne (by kernel_rfl) (Outs.sc rfl Outs.nil)
/-! eyot/eyotlaw18.begun -/
def eyotlaw18_begun (k : Nat)  : Option Bool :=
  (tree_Kids k ([(⟨(0 : Int), (0 : Int), (-1 : Int), (0 : Int), (2 : Int)⟩ : NodeT), (⟨(1 : Int), (-1 : Int), (0 : Int), (0 : Int), (1 : Int)⟩ : NodeT), (⟨(1 : Int), (-1 : Int), (1 : Int), (1 : Int), (2 : Int)⟩ : NodeT)] : List NodeT) (0 : Int)).bind fun r5 => (tree_Path k ([(⟨(0 : Int), (0 : Int), (-1 : Int), (0 : Int), (2 : Int)⟩ : NodeT), (⟨(1 : Int), (-1 : Int), (0 : Int), (0 : Int), (1 : Int)⟩ : NodeT), (⟨(1 : Int), (-1 : Int), (1 : Int), (1 : Int), (2 : Int)⟩ : NodeT)] : List NodeT) (1 : Int)).bind fun r8 => (tree_Move k ([(⟨(0 : Int), (0 : Int), (-1 : Int), (0 : Int), (2 : Int)⟩ : NodeT), (⟨(1 : Int), (-1 : Int), (0 : Int), (0 : Int), (1 : Int)⟩ : NodeT), (⟨(1 : Int), (-1 : Int), (1 : Int), (1 : Int), (2 : Int)⟩ : NodeT)] : List NodeT) (3 : Int)).bind fun r11 => ((tree_May k ([(⟨(0 : Int), (0 : Int), (-1 : Int), (0 : Int), (2 : Int)⟩ : NodeT), (⟨(1 : Int), (-1 : Int), (0 : Int), (0 : Int), (1 : Int)⟩ : NodeT), (⟨(1 : Int), (-1 : Int), (1 : Int), (1 : Int), (2 : Int)⟩ : NodeT)] : List NodeT)).bind fun r16 => cond r16 (cond (((r5.length : Nat) : Int) == (2 : Int)) (cond (((r8.length : Nat) : Int) == (2 : Int)) ((at? r8 (1 : Int)).bind fun a21 => cond (a21 == (2 : Int)) (cond (((r11.length : Nat) : Int) == (3 : Int)) ((at? r11 (0 : Int)).bind fun a27 => cond (a27.from_ == (3 : Int)) ((tree_Same k ([(⟨(0 : Int), (0 : Int), (-1 : Int), (0 : Int), (2 : Int)⟩ : NodeT), (⟨(1 : Int), (-1 : Int), (0 : Int), (0 : Int), (1 : Int)⟩ : NodeT), (⟨(1 : Int), (-1 : Int), (1 : Int), (1 : Int), (2 : Int)⟩ : NodeT)] : List NodeT) ([(⟨(0 : Int), (0 : Int), (-1 : Int), (0 : Int), (2 : Int)⟩ : NodeT), (⟨(1 : Int), (-1 : Int), (0 : Int), (0 : Int), (1 : Int)⟩ : NodeT), (⟨(1 : Int), (-1 : Int), (1 : Int), (1 : Int), (2 : Int)⟩ : NodeT)] : List NodeT)).bind fun r32 => some r32) (some false)) (some false)) (some false)) (some false)) (some false)) (some false)).bind fun y14 => some y14
theorem eyotlaw18_begun_ok (k : Nat)  : ∀ r, eyotlaw18_begun k = some r → CallOk prog 108 [] false [.sc (.x (.bool r))] := by
  refine CallOk.of' (pf := pf108) (ts := [0]) (Res := fun (r : Bool) => [.sc (.x (.bool r))]) rfl rfl rfl rfl ?_
  unfold eyotlaw18_begun pf108
  refine JC.seq ?_
  refine JC.region fun b1 => ?_
  refine JS.run 1 (by kernel_rfl) ?_
  refine JS.nil ?_
  refine JC.to2 [] [] (by kernel_rfl) (by kernel_rfl) ?_
  refine JC.skipT ?_
  refine JC.seq ?_
  refine JC.region fun b2 => ?_
  refine JS.run 3 (by kernel_rfl) ?_
  refine JS.buildSlice (c := NodeT.D) ([(⟨(0 : Int), (0 : Int), (-1 : Int), (0 : Int), (2 : Int)⟩ : NodeT), (⟨(1 : Int), (-1 : Int), (0 : Int), (0 : Int), (1 : Int)⟩ : NodeT), (⟨(1 : Int), (-1 : Int), (1 : Int), (1 : Int), (2 : Int)⟩ : NodeT)] : List NodeT) (by kernel_rfl) (by kernel_rfl) (by kernel_rfl) (by kernel_rfl) (by kernel_rfl) (fun id3 => ?_)
  refine JS.run 1 (by kernel_rfl) ?_
  refine JS.nil ?_
  refine JC.to2 [(1, .ref (some id3) 0 (([(⟨(0 : Int), (0 : Int), (-1 : Int), (0 : Int), (2 : Int)⟩ : NodeT), (⟨(1 : Int), (-1 : Int), (0 : Int), (0 : Int), (1 : Int)⟩ : NodeT), (⟨(1 : Int), (-1 : Int), (1 : Int), (1 : Int), (2 : Int)⟩ : NodeT)] : List NodeT).length))] [⟨(some id3), 5, vl NodeT.D ([(⟨(0 : Int), (0 : Int), (-1 : Int), (0 : Int), (2 : Int)⟩ : NodeT), (⟨(1 : Int), (-1 : Int), (0 : Int), (0 : Int), (1 : Int)⟩ : NodeT), (⟨(1 : Int), (-1 : Int), (1 : Int), (1 : Int), (2 : Int)⟩ : NodeT)] : List NodeT)⟩] (by kernel_rfl) (by kernel_rfl) ?_
  refine JC.skipT ?_
  refine JC.seq ?_
  refine JC.region fun b4 => ?_
  refine JS.run 1 (by kernel_rfl) ?_
  refine JS.bind fun r5 h6 => ?_
  refine JS.callK1 [0] (tree_Kids_ok k ([(⟨(0 : Int), (0 : Int), (-1 : Int), (0 : Int), (2 : Int)⟩ : NodeT), (⟨(1 : Int), (-1 : Int), (0 : Int), (0 : Int), (1 : Int)⟩ : NodeT), (⟨(1 : Int), (-1 : Int), (1 : Int), (1 : Int), (2 : Int)⟩ : NodeT)] : List NodeT) (0 : Int) r5 h6) ⟨rfl, argT (c := NodeT.D) (l := ([(⟨(0 : Int), (0 : Int), (-1 : Int), (0 : Int), (2 : Int)⟩ : NodeT), (⟨(1 : Int), (-1 : Int), (0 : Int), (0 : Int), (1 : Int)⟩ : NodeT), (⟨(1 : Int), (-1 : Int), (1 : Int), (1 : Int), (2 : Int)⟩ : NodeT)] : List NodeT)) (o := (some id3)) 0 (by kernel_rfl) (by kernel_rfl) (by kernel_rfl) (fun _ => rfl), rfl, argX (d := (.int .i64 (0 : Int))) (by kernel_rfl) (by kernel_rfl), trivial⟩ ⟨vl_sc (fun _ => rfl), trivial⟩ (by kernel_rfl) (by kernel_rfl) (by kernel_rfl) (by kernel_rfl) (fun o7 => ?_)
  refine JS.relen (o := o7) (off := 0) (n := (vl (iD .i64) r5).length) (n' := r5.length) 10 (by kernel_rfl) (vl_len _ _) ?_
  refine JS.run 1 (by kernel_rfl) ?_
  refine JS.bind fun r8 h9 => ?_
  refine JS.callK1 [0] (tree_Path_ok k ([(⟨(0 : Int), (0 : Int), (-1 : Int), (0 : Int), (2 : Int)⟩ : NodeT), (⟨(1 : Int), (-1 : Int), (0 : Int), (0 : Int), (1 : Int)⟩ : NodeT), (⟨(1 : Int), (-1 : Int), (1 : Int), (1 : Int), (2 : Int)⟩ : NodeT)] : List NodeT) (1 : Int) r8 h9) ⟨rfl, argT (c := NodeT.D) (l := ([(⟨(0 : Int), (0 : Int), (-1 : Int), (0 : Int), (2 : Int)⟩ : NodeT), (⟨(1 : Int), (-1 : Int), (0 : Int), (0 : Int), (1 : Int)⟩ : NodeT), (⟨(1 : Int), (-1 : Int), (1 : Int), (1 : Int), (2 : Int)⟩ : NodeT)] : List NodeT)) (o := (some id3)) 0 (by kernel_rfl) (by kernel_rfl) (by kernel_rfl) (fun _ => rfl), rfl, argX (d := (.int .i64 (1 : Int))) (by kernel_rfl) (by kernel_rfl), trivial⟩ ⟨vl_sc (fun _ => rfl), trivial⟩ (by kernel_rfl) (by kernel_rfl) (by kernel_rfl) (by kernel_rfl) (fun o10 => ?_)
  refine JS.relen (o := o10) (off := 0) (n := (vl (iD .i64) r8).length) (n' := r8.length) 12 (by kernel_rfl) (vl_len _ _) ?_
  refine JS.run 1 (by kernel_rfl) ?_
  refine JS.bind fun r11 h12 => ?_
  refine JS.callK1 [0] (tree_Move_ok k ([(⟨(0 : Int), (0 : Int), (-1 : Int), (0 : Int), (2 : Int)⟩ : NodeT), (⟨(1 : Int), (-1 : Int), (0 : Int), (0 : Int), (1 : Int)⟩ : NodeT), (⟨(1 : Int), (-1 : Int), (1 : Int), (1 : Int), (2 : Int)⟩ : NodeT)] : List NodeT) (3 : Int) r11 h12) ⟨rfl, argT (c := NodeT.D) (l := ([(⟨(0 : Int), (0 : Int), (-1 : Int), (0 : Int), (2 : Int)⟩ : NodeT), (⟨(1 : Int), (-1 : Int), (0 : Int), (0 : Int), (1 : Int)⟩ : NodeT), (⟨(1 : Int), (-1 : Int), (1 : Int), (1 : Int), (2 : Int)⟩ : NodeT)] : List NodeT)) (o := (some id3)) 0 (by kernel_rfl) (by kernel_rfl) (by kernel_rfl) (fun _ => rfl), rfl, argX (d := (.int .i64 (3 : Int))) (by kernel_rfl) (by kernel_rfl), trivial⟩ ⟨vl_sc (fun _ => rfl), trivial⟩ (by kernel_rfl) (by kernel_rfl) (by kernel_rfl) (by kernel_rfl) (fun o13 => ?_)
  refine JS.relen (o := o13) (off := 0) (n := (vl NodeT.D r11).length) (n' := r11.length) 14 (by kernel_rfl) (vl_len _ _) ?_
  refine JS.run 3 (by kernel_rfl) ?_
  refine JS.nil ?_
  refine JC.to2 [(1, .ref (some id3) 0 (([(⟨(0 : Int), (0 : Int), (-1 : Int), (0 : Int), (2 : Int)⟩ : NodeT), (⟨(1 : Int), (-1 : Int), (0 : Int), (0 : Int), (1 : Int)⟩ : NodeT), (⟨(1 : Int), (-1 : Int), (1 : Int), (1 : Int), (2 : Int)⟩ : NodeT)] : List NodeT).length)), (2, .ref o7 0 r5.length), (3, .ref o10 0 r8.length), (4, .ref o13 0 r11.length)] [⟨(some id3), 5, vl NodeT.D ([(⟨(0 : Int), (0 : Int), (-1 : Int), (0 : Int), (2 : Int)⟩ : NodeT), (⟨(1 : Int), (-1 : Int), (0 : Int), (0 : Int), (1 : Int)⟩ : NodeT), (⟨(1 : Int), (-1 : Int), (1 : Int), (1 : Int), (2 : Int)⟩ : NodeT)] : List NodeT)⟩, ⟨o7, 1, vl (iD .i64) r5⟩, ⟨o10, 1, vl (iD .i64) r8⟩, ⟨o13, 5, vl NodeT.D r11⟩] (by kernel_rfl) (by kernel_rfl) ?_
  refine JC.skipT ?_
  refine JC.seq ?_
  refine JC.bind (A := fun v ex E R => ex = .normal ∧ E = [(0, .x (.bool v))] ∧ R = []) ?_ ?_
  · refine JC.region fun b15 => ?_
    refine JS.run 1 (by kernel_rfl) ?_
    refine JS.bind fun r16 h17 => ?_
    refine JS.callS [0] (tree_May_ok k ([(⟨(0 : Int), (0 : Int), (-1 : Int), (0 : Int), (2 : Int)⟩ : NodeT), (⟨(1 : Int), (-1 : Int), (0 : Int), (0 : Int), (1 : Int)⟩ : NodeT), (⟨(1 : Int), (-1 : Int), (1 : Int), (1 : Int), (2 : Int)⟩ : NodeT)] : List NodeT) r16 h17) ⟨rfl, argT (c := NodeT.D) (l := ([(⟨(0 : Int), (0 : Int), (-1 : Int), (0 : Int), (2 : Int)⟩ : NodeT), (⟨(1 : Int), (-1 : Int), (0 : Int), (0 : Int), (1 : Int)⟩ : NodeT), (⟨(1 : Int), (-1 : Int), (1 : Int), (1 : Int), (2 : Int)⟩ : NodeT)] : List NodeT)) (o := (some id3)) 0 (by kernel_rfl) (by kernel_rfl) (by kernel_rfl) (fun _ => rfl), trivial⟩ (by kernel_rfl) (by kernel_rfl) (by kernel_rfl) ?_
    refine JS.run 1 (by kernel_rfl) ?_
    refine JS.split (e := r16) 17 (by kernel_rfl) (fun h18 => ?_) (fun h18 => ?_)
    · refine JS.run 5 (by kernel_rfl) ?_
      refine JS.split (e := (((r5.length : Nat) : Int) == (2 : Int))) 22 (by kernel_rfl) (fun h19 => ?_) (fun h19 => ?_)
      · refine JS.run 5 (by kernel_rfl) ?_
        refine JS.split (e := (((r8.length : Nat) : Int) == (2 : Int))) 27 (by kernel_rfl) (fun h20 => ?_) (fun h20 => ?_)
        · refine JS.run 1 (by kernel_rfl) ?_
          refine JS.idxT (c := (iD .i64)) (l := r8) (o := o10) (kk := .i64) (z := (1 : Int)) 2 (by kernel_rfl) (by kernel_rfl) (by kernel_rfl) (by kernel_rfl) (by kernel_rfl) (fun id23 a21 e24 h22 => ?_)
          subst e24
          refine JS.loadO (id := id23) (sz := 1) (p := (1 : Int).toNat) (j := 0) (es := (vl (iD .i64) r8)) (e := (cv (iD .i64) a21)) 2 (by kernel_rfl) (vl_get h22) (by kernel_rfl) (by kernel_rfl) (by kernel_rfl) (by kernel_rfl) ?_
          refine JS.run 3 (by kernel_rfl) ?_
          refine JS.split (e := (a21 == (2 : Int))) 33 (by kernel_rfl) (fun h25 => ?_) (fun h25 => ?_)
          · refine JS.run 5 (by kernel_rfl) ?_
            refine JS.split (e := (((r11.length : Nat) : Int) == (3 : Int))) 38 (by kernel_rfl) (fun h26 => ?_) (fun h26 => ?_)
            · refine JS.run 1 (by kernel_rfl) ?_
              refine JS.idxT (c := NodeT.D) (l := r11) (o := o13) (kk := .i64) (z := (0 : Int)) 3 (by kernel_rfl) (by kernel_rfl) (by kernel_rfl) (by kernel_rfl) (by kernel_rfl) (fun id29 a27 e30 h28 => ?_)
              subst e30
              refine JS.run 1 (by kernel_rfl) ?_
              refine JS.loadO (id := id29) (sz := 5) (p := (0 : Int).toNat) (j := 3) (es := (vl NodeT.D r11)) (e := (cv NodeT.D a27)) 3 (by kernel_rfl) (vl_get h28) (by kernel_rfl) (by kernel_rfl) (by kernel_rfl) (by kernel_rfl) ?_
              refine JS.run 3 (by kernel_rfl) ?_
              refine JS.split (e := (a27.from_ == (3 : Int))) 45 (by kernel_rfl) (fun h31 => ?_) (fun h31 => ?_)
              · refine JS.run 2 (by kernel_rfl) ?_
                refine JS.bind fun r32 h33 => ?_
                refine JS.callS [0] (tree_Same_ok k ([(⟨(0 : Int), (0 : Int), (-1 : Int), (0 : Int), (2 : Int)⟩ : NodeT), (⟨(1 : Int), (-1 : Int), (0 : Int), (0 : Int), (1 : Int)⟩ : NodeT), (⟨(1 : Int), (-1 : Int), (1 : Int), (1 : Int), (2 : Int)⟩ : NodeT)] : List NodeT) ([(⟨(0 : Int), (0 : Int), (-1 : Int), (0 : Int), (2 : Int)⟩ : NodeT), (⟨(1 : Int), (-1 : Int), (0 : Int), (0 : Int), (1 : Int)⟩ : NodeT), (⟨(1 : Int), (-1 : Int), (1 : Int), (1 : Int), (2 : Int)⟩ : NodeT)] : List NodeT) r32 h33) ⟨rfl, argT (c := NodeT.D) (l := ([(⟨(0 : Int), (0 : Int), (-1 : Int), (0 : Int), (2 : Int)⟩ : NodeT), (⟨(1 : Int), (-1 : Int), (0 : Int), (0 : Int), (1 : Int)⟩ : NodeT), (⟨(1 : Int), (-1 : Int), (1 : Int), (1 : Int), (2 : Int)⟩ : NodeT)] : List NodeT)) (o := (some id3)) 0 (by kernel_rfl) (by kernel_rfl) (by kernel_rfl) (fun _ => rfl), rfl, argT (c := NodeT.D) (l := ([(⟨(0 : Int), (0 : Int), (-1 : Int), (0 : Int), (2 : Int)⟩ : NodeT), (⟨(1 : Int), (-1 : Int), (0 : Int), (0 : Int), (1 : Int)⟩ : NodeT), (⟨(1 : Int), (-1 : Int), (1 : Int), (1 : Int), (2 : Int)⟩ : NodeT)] : List NodeT)) (o := (some id3)) 0 (by kernel_rfl) (by kernel_rfl) (by kernel_rfl) (fun _ => rfl), trivial⟩ (by kernel_rfl) (by kernel_rfl) (by kernel_rfl) ?_
                refine JS.run 2 (by kernel_rfl) ?_
                refine JS.nil ?_
                refine JC.drop 3 ?_
                refine JC.drop 2 ?_
                refine JC.drop 1 ?_
                refine JC.drop 0 ?_
                refine JC.to2 [(0, .x (.bool r32))] [] (by kernel_rfl) (by kernel_rfl) ?_
                refine JC.to2 [(0, .x (.bool r32))] [] (by kernel_rfl) (by kernel_rfl) ?_
                exact JC.got (ex := .normal) rfl ⟨rfl, rfl, rfl⟩
              · refine JS.run 5 (by kernel_rfl) ?_
                refine JS.nil ?_
                refine JC.drop 3 ?_
                refine JC.drop 2 ?_
                refine JC.drop 1 ?_
                refine JC.drop 0 ?_
                refine JC.to2 [(0, .x (.bool false))] [] (by kernel_rfl) (by kernel_rfl) ?_
                refine JC.to2 [(0, .x (.bool false))] [] (by kernel_rfl) (by kernel_rfl) ?_
                exact JC.got (ex := .normal) rfl ⟨rfl, rfl, rfl⟩
            · refine JS.run 12 (by kernel_rfl) ?_
              refine JS.nil ?_
              refine JC.drop 3 ?_
              refine JC.drop 2 ?_
              refine JC.drop 1 ?_
              refine JC.drop 0 ?_
              refine JC.to2 [(0, .x (.bool false))] [] (by kernel_rfl) (by kernel_rfl) ?_
              refine JC.to2 [(0, .x (.bool false))] [] (by kernel_rfl) (by kernel_rfl) ?_
              exact JC.got (ex := .normal) rfl ⟨rfl, rfl, rfl⟩
          · refine JS.run 17 (by kernel_rfl) ?_
            refine JS.nil ?_
            refine JC.drop 3 ?_
            refine JC.drop 2 ?_
            refine JC.drop 1 ?_
            refine JC.drop 0 ?_
            refine JC.to2 [(0, .x (.bool false))] [] (by kernel_rfl) (by kernel_rfl) ?_
            refine JC.to2 [(0, .x (.bool false))] [] (by kernel_rfl) (by kernel_rfl) ?_
            exact JC.got (ex := .normal) rfl ⟨rfl, rfl, rfl⟩
        · refine JS.run 23 (by kernel_rfl) ?_
          refine JS.nil ?_
          refine JC.drop 3 ?_
          refine JC.drop 2 ?_
          refine JC.drop 1 ?_
          refine JC.drop 0 ?_
          refine JC.to2 [(0, .x (.bool false))] [] (by kernel_rfl) (by kernel_rfl) ?_
          refine JC.to2 [(0, .x (.bool false))] [] (by kernel_rfl) (by kernel_rfl) ?_
          exact JC.got (ex := .normal) rfl ⟨rfl, rfl, rfl⟩
      · refine JS.run 28 (by kernel_rfl) ?_
        refine JS.nil ?_
        refine JC.drop 3 ?_
        refine JC.drop 2 ?_
        refine JC.drop 1 ?_
        refine JC.drop 0 ?_
        refine JC.to2 [(0, .x (.bool false))] [] (by kernel_rfl) (by kernel_rfl) ?_
        refine JC.to2 [(0, .x (.bool false))] [] (by kernel_rfl) (by kernel_rfl) ?_
        exact JC.got (ex := .normal) rfl ⟨rfl, rfl, rfl⟩
    · refine JS.run 33 (by kernel_rfl) ?_
      refine JS.nil ?_
      refine JC.drop 3 ?_
      refine JC.drop 2 ?_
      refine JC.drop 1 ?_
      refine JC.drop 0 ?_
      refine JC.to2 [(0, .x (.bool false))] [] (by kernel_rfl) (by kernel_rfl) ?_
      refine JC.to2 [(0, .x (.bool false))] [] (by kernel_rfl) (by kernel_rfl) ?_
      exact JC.got (ex := .normal) rfl ⟨rfl, rfl, rfl⟩
  · rintro y14 ex E' R' hA
    obtain ⟨rfl, rfl, rfl⟩ := hA
    refine JC.to2 [(0, .x (.bool y14))] [] (by kernel_rfl) (by kernel_rfl) ?_
    refine JC.skipT ?_
    exact JC.fin (ex := .ret) (vs := [.x (.bool y14)]) (is := []) rfl ret_ne (by kernel_rfl) (Outs.sc rfl Outs.nil)
/-! eyot/eyotlaw18.TreeAll -/
def eyotlaw18_TreeAll (k : Nat) (a0 : (List NodeT)) (a1 : Int) (a2 : Int) : Option Bool :=
  (eyotlaw18_begun k).bind fun r3 => cond (!r3) (some false) (cond (decide (((a0.length : Nat) : Int) > (20 : Int))) (some true) ((eyotref18_May k a0).bind fun r11 => (tree_May k a0).bind fun r14 => cond (!(r14 == r11)) (some false) (cond (!r11) ((tree_Kids k a0 a1).bind fun r21 => (tree_Path k a0 a2).bind fun r24 => some ((IntKind.i64.wrap (((r21.length : Nat) : Int) + ((r24.length : Nat) : Int))) == (0 : Int))) ((cond (decide (a1 < (0 : Int))) (some true) (some (decide (a1 ≥ ((a0.length : Nat) : Int))))).bind fun y27 => cond y27 (((tree_Kids k a0 a1).bind fun r33 => cond (((r33.length : Nat) : Int) == (0 : Int)) ((tree_Path k a0 a2).bind fun r37 => (eyotref18_Path k a0 a2).bind fun r40 => (eyotref13_SameInts k r37 r40).bind fun r43 => some r43) (some false)).bind fun y31 => some y31) (((tree_Kids k a0 a1).bind fun r47 => (eyotref18_Kids k a0 a1).bind fun r50 => (eyotref13_SameInts k r47 r50).bind fun r53 => cond r53 ((tree_Path k a0 a2).bind fun r56 => (eyotref18_Path k a0 a2).bind fun r59 => (eyotref13_SameInts k r56 r59).bind fun r62 => some r62) (some false)).bind fun y45 => some y45)))))
theorem eyotlaw18_TreeAll_ok (k : Nat) (a0 : (List NodeT)) (a1 : Int) (a2 : Int) : ∀ r, eyotlaw18_TreeAll k a0 a1 a2 = some r → CallOk prog 107 [.c 1 (.lst 5 (a0.map NodeT.D)), .x (.int .i64 a1), .x (.int .i64 a2)] false [.sc (.x (.bool r))] := by
  refine CallOk.of' (pf := pf107) (ts := [6]) (Res := fun (r : Bool) => [.sc (.x (.bool r))]) rfl rfl rfl rfl ?_
  unfold eyotlaw18_TreeAll pf107
  refine JC.seq ?_
  refine JC.region fun b1 => ?_
  refine JS.run 1 (by kernel_rfl) ?_
  refine JS.nil ?_
  refine JC.to2 [(0, .c 1 (.lst 5 (a0.map NodeT.D))), (1, .x (.int .i64 a1)), (2, .x (.int .i64 a2))] [] (by kernel_rfl) (by kernel_rfl) ?_
  refine JC.skipT ?_
  refine JC.seq ?_
  refine JC.seq ?_
  refine JC.region fun b2 => ?_
  refine JS.bind fun r3 h4 => ?_
  refine JS.callS [] (eyotlaw18_begun_ok k r3 h4) trivial (by kernel_rfl) (by kernel_rfl) (by kernel_rfl) ?_
  refine JS.run 1 (by kernel_rfl) ?_
  refine JS.nil ?_
  refine JC.to2 [(0, .c 1 (.lst 5 (a0.map NodeT.D))), (1, .x (.int .i64 a1)), (2, .x (.int .i64 a2)), (9, .x (.bool (!r3)))] [] (by kernel_rfl) (by kernel_rfl) ?_
  refine JC.skipT ?_
  refine JC.cond (e := (!r3)) (by kernel_rfl) (fun h5 => ?_) (fun h5 => ?_)
  · refine JC.seq ?_
    refine JC.region fun b6 => ?_
    refine JS.run 1 (by kernel_rfl) ?_
    refine JS.nil ?_
    refine JC.to2 [(6, .x (.bool false))] [] (by kernel_rfl) (by kernel_rfl) ?_
    refine JC.skipT ?_
    refine JC.retT ?_
    exact JC.fin (ex := .ret) (vs := [.x (.bool false)]) (is := []) rfl ret_ne (by kernel_rfl) (Outs.sc rfl Outs.nil)
  · refine JC.skipT ?_
    refine JC.seq ?_
    refine JC.seq ?_
    refine JC.region fun b7 => ?_
    refine JS.run 1 (by kernel_rfl) ?_
    refine JS.lenC (c := NodeT.D) (l := a0) (n := 1) (sz := 5) (by kernel_rfl) (by kernel_rfl) (by kernel_rfl) ?_
    refine JS.run 1 (by kernel_rfl) ?_
    refine JS.nil ?_
    refine JC.to2 [(0, .c 1 (.lst 5 (a0.map NodeT.D))), (1, .x (.int .i64 a1)), (2, .x (.int .i64 a2)), (12, .x (.bool (decide (((a0.length : Nat) : Int) > (20 : Int)))))] [] (by kernel_rfl) (by kernel_rfl) ?_
    refine JC.skipT ?_
    refine JC.cond (e := (decide (((a0.length : Nat) : Int) > (20 : Int)))) (by kernel_rfl) (fun h8 => ?_) (fun h8 => ?_)
    · refine JC.seq ?_
      refine JC.region fun b9 => ?_
      refine JS.run 1 (by kernel_rfl) ?_
      refine JS.nil ?_
      refine JC.to2 [(6, .x (.bool true))] [] (by kernel_rfl) (by kernel_rfl) ?_
      refine JC.skipT ?_
      refine JC.retT ?_
      exact JC.fin (ex := .ret) (vs := [.x (.bool true)]) (is := []) rfl ret_ne (by kernel_rfl) (Outs.sc rfl Outs.nil)
    · refine JC.skipT ?_
      refine JC.seq ?_
      refine JC.region fun b10 => ?_
      refine JS.run 1 (by kernel_rfl) ?_
      refine JS.bind fun r11 h12 => ?_
      refine JS.callS [] (eyotref18_May_ok k a0 r11 h12) ⟨rfl, argC (n := 1) (by kernel_rfl) (by kernel_rfl) (by kernel_rfl), trivial⟩ (by kernel_rfl) (by kernel_rfl) (by kernel_rfl) ?_
      refine JS.run 1 (by kernel_rfl) ?_
      refine JS.nil ?_
      refine JC.to2 [(0, .c 1 (.lst 5 (a0.map NodeT.D))), (1, .x (.int .i64 a1)), (2, .x (.int .i64 a2)), (7, .x (.bool r11))] [] (by kernel_rfl) (by kernel_rfl) ?_
      refine JC.skipT ?_
      refine JC.seq ?_
      refine JC.seq ?_
      refine JC.region fun b13 => ?_
      refine JS.run 1 (by kernel_rfl) ?_
      refine JS.bind fun r14 h15 => ?_
      refine JS.callS [] (tree_May_ok k a0 r14 h15) ⟨rfl, argC (n := 1) (by kernel_rfl) (by kernel_rfl) (by kernel_rfl), trivial⟩ (by kernel_rfl) (by kernel_rfl) (by kernel_rfl) ?_
      refine JS.run 2 (by kernel_rfl) ?_
      refine JS.nil ?_
      refine JC.to2 [(0, .c 1 (.lst 5 (a0.map NodeT.D))), (1, .x (.int .i64 a1)), (2, .x (.int .i64 a2)), (7, .x (.bool r11)), (18, .x (.bool (!(r14 == r11))))] [] (by kernel_rfl) (by kernel_rfl) ?_
      refine JC.skipT ?_
      refine JC.cond (e := (!(r14 == r11))) (by kernel_rfl) (fun h16 => ?_) (fun h16 => ?_)
      · refine JC.seq ?_
        refine JC.region fun b17 => ?_
        refine JS.run 1 (by kernel_rfl) ?_
        refine JS.nil ?_
        refine JC.to2 [(6, .x (.bool false))] [] (by kernel_rfl) (by kernel_rfl) ?_
        refine JC.skipT ?_
        refine JC.retT ?_
        exact JC.fin (ex := .ret) (vs := [.x (.bool false)]) (is := []) rfl ret_ne (by kernel_rfl) (Outs.sc rfl Outs.nil)
      · refine JC.skipT ?_
        refine JC.seq ?_
        refine JC.seq ?_
        refine JC.region fun b18 => ?_
        refine JS.run 2 (by kernel_rfl) ?_
        refine JS.nil ?_
        refine JC.to2 [(0, .c 1 (.lst 5 (a0.map NodeT.D))), (1, .x (.int .i64 a1)), (2, .x (.int .i64 a2)), (20, .x (.bool (!r11)))] [] (by kernel_rfl) (by kernel_rfl) ?_
        refine JC.skipT ?_
        refine JC.cond (e := (!r11)) (by kernel_rfl) (fun h19 => ?_) (fun h19 => ?_)
        · refine JC.seq ?_
          refine JC.region fun b20 => ?_
          refine JS.run 2 (by kernel_rfl) ?_
          refine JS.bind fun r21 h22 => ?_
          refine JS.callK1 [] (tree_Kids_ok k a0 a1 r21 h22) ⟨rfl, argC (n := 1) (by kernel_rfl) (by kernel_rfl) (by kernel_rfl), rfl, argX (d := (.int .i64 a1)) (by kernel_rfl) (by kernel_rfl), trivial⟩ ⟨vl_sc (fun _ => rfl), trivial⟩ (by kernel_rfl) (by kernel_rfl) (by kernel_rfl) (by kernel_rfl) (fun o23 => ?_)
          refine JS.relen (o := o23) (off := 0) (n := (vl (iD .i64) r21).length) (n' := r21.length) 23 (by kernel_rfl) (vl_len _ _) ?_
          refine JS.run 3 (by kernel_rfl) ?_
          refine JS.bind fun r24 h25 => ?_
          refine JS.callK1 [] (tree_Path_ok k a0 a2 r24 h25) ⟨rfl, argC (n := 1) (by kernel_rfl) (by kernel_rfl) (by kernel_rfl), rfl, argX (d := (.int .i64 a2)) (by kernel_rfl) (by kernel_rfl), trivial⟩ ⟨vl_sc (fun _ => rfl), trivial⟩ (by kernel_rfl) (by kernel_rfl) (by kernel_rfl) (by kernel_rfl) (fun o26 => ?_)
          refine JS.relen (o := o26) (off := 0) (n := (vl (iD .i64) r24).length) (n' := r24.length) 27 (by kernel_rfl) (vl_len _ _) ?_
          refine JS.run 4 (by kernel_rfl) ?_
          refine JS.nil ?_
          refine JC.drop 1 ?_
          refine JC.drop 0 ?_
          refine JC.to2 [(6, .x (.bool ((IntKind.i64.wrap (((r21.length : Nat) : Int) + ((r24.length : Nat) : Int))) == (0 : Int))))] [] (by kernel_rfl) (by kernel_rfl) ?_
          refine JC.skipT ?_
          refine JC.retT ?_
          exact JC.fin (ex := .ret) (vs := [.x (.bool ((IntKind.i64.wrap (((r21.length : Nat) : Int) + ((r24.length : Nat) : Int))) == (0 : Int)))]) (is := []) rfl ret_ne (by kernel_rfl) (Outs.sc rfl Outs.nil)
        · refine JC.skipT ?_
          refine JC.seq ?_
          refine JC.seq ?_
          refine JC.bind (A := fun v ex E R => ex = .normal ∧ E = [(0, .c 1 (.lst 5 (a0.map NodeT.D))), (1, .x (.int .i64 a1)), (2, .x (.int .i64 a2)), (38, .x (.bool v))] ∧ R = []) ?_ ?_
          · refine JC.region fun b28 => ?_
            refine JS.run 3 (by kernel_rfl) ?_
            refine JS.split (e := (decide (a1 < (0 : Int)))) 33 (by kernel_rfl) (fun h29 => ?_) (fun h29 => ?_)
            · refine JS.run 5 (by kernel_rfl) ?_
              refine JS.nil ?_
              refine JC.to2 [(0, .c 1 (.lst 5 (a0.map NodeT.D))), (1, .x (.int .i64 a1)), (2, .x (.int .i64 a2)), (38, .x (.bool true))] [] (by kernel_rfl) (by kernel_rfl) ?_
              refine JC.to2 [(0, .c 1 (.lst 5 (a0.map NodeT.D))), (1, .x (.int .i64 a1)), (2, .x (.int .i64 a2)), (38, .x (.bool true))] [] (by kernel_rfl) (by kernel_rfl) ?_
              exact JC.got (ex := .normal) rfl ⟨rfl, rfl, rfl⟩
            · refine JS.run 2 (by kernel_rfl) ?_
              refine JS.lenC (c := NodeT.D) (l := a0) (n := 1) (sz := 5) (by kernel_rfl) (by kernel_rfl) (by kernel_rfl) ?_
              refine JS.run 2 (by kernel_rfl) ?_
              refine JS.nil ?_
              refine JC.to2 [(0, .c 1 (.lst 5 (a0.map NodeT.D))), (1, .x (.int .i64 a1)), (2, .x (.int .i64 a2)), (38, .x (.bool (decide (a1 ≥ ((a0.length : Nat) : Int)))))] [] (by kernel_rfl) (by kernel_rfl) ?_
              refine JC.to2 [(0, .c 1 (.lst 5 (a0.map NodeT.D))), (1, .x (.int .i64 a1)), (2, .x (.int .i64 a2)), (38, .x (.bool (decide (a1 ≥ ((a0.length : Nat) : Int)))))] [] (by kernel_rfl) (by kernel_rfl) ?_
              exact JC.got (ex := .normal) rfl ⟨rfl, rfl, rfl⟩
          · rintro y27 ex E' R' hA
            obtain ⟨rfl, rfl, rfl⟩ := hA
            refine JC.to2 [(0, .c 1 (.lst 5 (a0.map NodeT.D))), (1, .x (.int .i64 a1)), (2, .x (.int .i64 a2)), (38, .x (.bool y27))] [] (by kernel_rfl) (by kernel_rfl) ?_
            refine JC.skipT ?_
            refine JC.cond (e := y27) (by kernel_rfl) (fun h30 => ?_) (fun h30 => ?_)
            · refine JC.seq ?_
              refine JC.bind (A := fun v ex E R => ex = .normal ∧ E = [(6, .x (.bool v))] ∧ R = []) ?_ ?_
              · refine JC.region fun b32 => ?_
                refine JS.run 2 (by kernel_rfl) ?_
                refine JS.bind fun r33 h34 => ?_
                refine JS.callK1 [] (tree_Kids_ok k a0 a1 r33 h34) ⟨rfl, argC (n := 1) (by kernel_rfl) (by kernel_rfl) (by kernel_rfl), rfl, argX (d := (.int .i64 a1)) (by kernel_rfl) (by kernel_rfl), trivial⟩ ⟨vl_sc (fun _ => rfl), trivial⟩ (by kernel_rfl) (by kernel_rfl) (by kernel_rfl) (by kernel_rfl) (fun o35 => ?_)
                refine JS.relen (o := o35) (off := 0) (n := (vl (iD .i64) r33).length) (n' := r33.length) 41 (by kernel_rfl) (vl_len _ _) ?_
                refine JS.run 3 (by kernel_rfl) ?_
                refine JS.split (e := (((r33.length : Nat) : Int) == (0 : Int))) 44 (by kernel_rfl) (fun h36 => ?_) (fun h36 => ?_)
                · refine JS.run 2 (by kernel_rfl) ?_
                  refine JS.bind fun r37 h38 => ?_
                  refine JS.callK1 [] (tree_Path_ok k a0 a2 r37 h38) ⟨rfl, argC (n := 1) (by kernel_rfl) (by kernel_rfl) (by kernel_rfl), rfl, argX (d := (.int .i64 a2)) (by kernel_rfl) (by kernel_rfl), trivial⟩ ⟨vl_sc (fun _ => rfl), trivial⟩ (by kernel_rfl) (by kernel_rfl) (by kernel_rfl) (by kernel_rfl) (fun o39 => ?_)
                  refine JS.relen (o := o39) (off := 0) (n := (vl (iD .i64) r37).length) (n' := r37.length) 47 (by kernel_rfl) (vl_len _ _) ?_
                  refine JS.run 2 (by kernel_rfl) ?_
                  refine JS.bind fun r40 h41 => ?_
                  refine JS.callK1 [] (eyotref18_Path_ok k a0 a2 r40 h41) ⟨rfl, argC (n := 1) (by kernel_rfl) (by kernel_rfl) (by kernel_rfl), rfl, argX (d := (.int .i64 a2)) (by kernel_rfl) (by kernel_rfl), trivial⟩ ⟨vl_sc (fun _ => rfl), trivial⟩ (by kernel_rfl) (by kernel_rfl) (by kernel_rfl) (by kernel_rfl) (fun o42 => ?_)
                  refine JS.relen (o := o42) (off := 0) (n := (vl (iD .i64) r40).length) (n' := r40.length) 50 (by kernel_rfl) (vl_len _ _) ?_
                  refine JS.bind fun r43 h44 => ?_
                  refine JS.callS [1, 2] (eyotref13_SameInts_ok k r37 r40 r43 h44) ⟨rfl, argT (c := (iD .i64)) (l := r37) (o := o39) 1 (by kernel_rfl) (by kernel_rfl) (by kernel_rfl) (fun _ => rfl), rfl, argT (c := (iD .i64)) (l := r40) (o := o42) 2 (by kernel_rfl) (by kernel_rfl) (by kernel_rfl) (fun _ => rfl), trivial⟩ (by kernel_rfl) (by kernel_rfl) (by kernel_rfl) ?_
                  refine JS.run 2 (by kernel_rfl) ?_
                  refine JS.nil ?_
                  refine JC.drop 2 ?_
                  refine JC.drop 1 ?_
                  refine JC.drop 0 ?_
                  refine JC.to2 [(6, .x (.bool r43))] [] (by kernel_rfl) (by kernel_rfl) ?_
                  refine JC.to2 [(6, .x (.bool r43))] [] (by kernel_rfl) (by kernel_rfl) ?_
                  exact JC.got (ex := .normal) rfl ⟨rfl, rfl, rfl⟩
                · refine JS.run 9 (by kernel_rfl) ?_
                  refine JS.nil ?_
                  refine JC.drop 0 ?_
                  refine JC.to2 [(6, .x (.bool false))] [] (by kernel_rfl) (by kernel_rfl) ?_
                  refine JC.to2 [(6, .x (.bool false))] [] (by kernel_rfl) (by kernel_rfl) ?_
                  exact JC.got (ex := .normal) rfl ⟨rfl, rfl, rfl⟩
              · rintro y31 ex E' R' hA
                obtain ⟨rfl, rfl, rfl⟩ := hA
                refine JC.to2 [(6, .x (.bool y31))] [] (by kernel_rfl) (by kernel_rfl) ?_
                refine JC.skipT ?_
                refine JC.retT ?_
                exact JC.fin (ex := .ret) (vs := [.x (.bool y31)]) (is := []) rfl ret_ne (by kernel_rfl) (Outs.sc rfl Outs.nil)
            · refine JC.skipT ?_
              refine JC.seq ?_
              refine JC.bind (A := fun v ex E R => ex = .normal ∧ E = [(6, .x (.bool v))] ∧ R = []) ?_ ?_
              · refine JC.region fun b46 => ?_
                refine JS.run 2 (by kernel_rfl) ?_
                refine JS.bind fun r47 h48 => ?_
                refine JS.callK1 [] (tree_Kids_ok k a0 a1 r47 h48) ⟨rfl, argC (n := 1) (by kernel_rfl) (by kernel_rfl) (by kernel_rfl), rfl, argX (d := (.int .i64 a1)) (by kernel_rfl) (by kernel_rfl), trivial⟩ ⟨vl_sc (fun _ => rfl), trivial⟩ (by kernel_rfl) (by kernel_rfl) (by kernel_rfl) (by kernel_rfl) (fun o49 => ?_)
                refine JS.relen (o := o49) (off := 0) (n := (vl (iD .i64) r47).length) (n' := r47.length) 55 (by kernel_rfl) (vl_len _ _) ?_
                refine JS.run 2 (by kernel_rfl) ?_
                refine JS.bind fun r50 h51 => ?_
                refine JS.callK1 [] (eyotref18_Kids_ok k a0 a1 r50 h51) ⟨rfl, argC (n := 1) (by kernel_rfl) (by kernel_rfl) (by kernel_rfl), rfl, argX (d := (.int .i64 a1)) (by kernel_rfl) (by kernel_rfl), trivial⟩ ⟨vl_sc (fun _ => rfl), trivial⟩ (by kernel_rfl) (by kernel_rfl) (by kernel_rfl) (by kernel_rfl) (fun o52 => ?_)
                refine JS.relen (o := o52) (off := 0) (n := (vl (iD .i64) r50).length) (n' := r50.length) 58 (by kernel_rfl) (vl_len _ _) ?_
                refine JS.bind fun r53 h54 => ?_
                refine JS.callS [0, 1] (eyotref13_SameInts_ok k r47 r50 r53 h54) ⟨rfl, argT (c := (iD .i64)) (l := r47) (o := o49) 0 (by kernel_rfl) (by kernel_rfl) (by kernel_rfl) (fun _ => rfl), rfl, argT (c := (iD .i64)) (l := r50) (o := o52) 1 (by kernel_rfl) (by kernel_rfl) (by kernel_rfl) (fun _ => rfl), trivial⟩ (by kernel_rfl) (by kernel_rfl) (by kernel_rfl) ?_
                refine JS.run 1 (by kernel_rfl) ?_
                refine JS.split (e := r53) 60 (by kernel_rfl) (fun h55 => ?_) (fun h55 => ?_)
                · refine JS.run 2 (by kernel_rfl) ?_
                  refine JS.bind fun r56 h57 => ?_
                  refine JS.callK1 [] (tree_Path_ok k a0 a2 r56 h57) ⟨rfl, argC (n := 1) (by kernel_rfl) (by kernel_rfl) (by kernel_rfl), rfl, argX (d := (.int .i64 a2)) (by kernel_rfl) (by kernel_rfl), trivial⟩ ⟨vl_sc (fun _ => rfl), trivial⟩ (by kernel_rfl) (by kernel_rfl) (by kernel_rfl) (by kernel_rfl) (fun o58 => ?_)
                  refine JS.relen (o := o58) (off := 0) (n := (vl (iD .i64) r56).length) (n' := r56.length) 63 (by kernel_rfl) (vl_len _ _) ?_
                  refine JS.run 2 (by kernel_rfl) ?_
                  refine JS.bind fun r59 h60 => ?_
                  refine JS.callK1 [] (eyotref18_Path_ok k a0 a2 r59 h60) ⟨rfl, argC (n := 1) (by kernel_rfl) (by kernel_rfl) (by kernel_rfl), rfl, argX (d := (.int .i64 a2)) (by kernel_rfl) (by kernel_rfl), trivial⟩ ⟨vl_sc (fun _ => rfl), trivial⟩ (by kernel_rfl) (by kernel_rfl) (by kernel_rfl) (by kernel_rfl) (fun o61 => ?_)
                  refine JS.relen (o := o61) (off := 0) (n := (vl (iD .i64) r59).length) (n' := r59.length) 66 (by kernel_rfl) (vl_len _ _) ?_
                  refine JS.bind fun r62 h63 => ?_
                  refine JS.callS [2, 3] (eyotref13_SameInts_ok k r56 r59 r62 h63) ⟨rfl, argT (c := (iD .i64)) (l := r56) (o := o58) 2 (by kernel_rfl) (by kernel_rfl) (by kernel_rfl) (fun _ => rfl), rfl, argT (c := (iD .i64)) (l := r59) (o := o61) 3 (by kernel_rfl) (by kernel_rfl) (by kernel_rfl) (fun _ => rfl), trivial⟩ (by kernel_rfl) (by kernel_rfl) (by kernel_rfl) ?_
                  refine JS.run 2 (by kernel_rfl) ?_
                  refine JS.nil ?_
                  refine JC.drop 3 ?_
                  refine JC.drop 2 ?_
                  refine JC.drop 1 ?_
                  refine JC.drop 0 ?_
                  refine JC.to2 [(6, .x (.bool r62))] [] (by kernel_rfl) (by kernel_rfl) ?_
                  refine JC.to2 [(6, .x (.bool r62))] [] (by kernel_rfl) (by kernel_rfl) ?_
                  exact JC.got (ex := .normal) rfl ⟨rfl, rfl, rfl⟩
                · refine JS.run 9 (by kernel_rfl) ?_
                  refine JS.nil ?_
                  refine JC.drop 1 ?_
                  refine JC.drop 0 ?_
                  refine JC.to2 [(6, .x (.bool false))] [] (by kernel_rfl) (by kernel_rfl) ?_
                  refine JC.to2 [(6, .x (.bool false))] [] (by kernel_rfl) (by kernel_rfl) ?_
                  exact JC.got (ex := .normal) rfl ⟨rfl, rfl, rfl⟩
              · rintro y45 ex E' R' hA
                obtain ⟨rfl, rfl, rfl⟩ := hA
                refine JC.to2 [(6, .x (.bool y45))] [] (by kernel_rfl) (by kernel_rfl) ?_
                refine JC.skipT ?_
                exact JC.fin (ex := .ret) (vs := [.x (.bool y45)]) (is := []) rfl ret_ne (by kernel_rfl) (Outs.sc rfl Outs.nil)
end Go.Pi
