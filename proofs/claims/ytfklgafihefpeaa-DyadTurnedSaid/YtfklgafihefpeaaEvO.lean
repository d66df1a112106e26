/- An abstract evaluator, part 24: comparisons that part the ways; ends. -/
import Derived.Test.YtfklgafihefpeaaEvN
set_option linter.unusedVariables false
set_option linter.unusedSimpArgs false
namespace Go.Ev
open Go.RowKit

namespace S
variable {F : Nat → List AV → AV → Prop} {e : Nat → AV} {H : Heap} {K : St → Prop} {d : Nat} {x y : Opd}
section int
variable {k : IntKind} {a b : Int} (hx : V e H x (.int k a)) (hy : V e H y (.int k b))
include hx hy
theorem eqlC (h1 : a = b → K ⟨upd e d (.bool true), H⟩) (h2 : ¬ a = b → K ⟨upd e d (.bool false), H⟩) : StepR F ⟨some d, .bin .eql, [x, y], none⟩ ⟨e, H⟩ K := by
  by_cases h : a = b
  · exact S.eql hx hy (decide_eq_true h) (h1 h)
  · exact S.eql hx hy (decide_eq_false h) (h2 h)
theorem neqC (h1 : a ≠ b → K ⟨upd e d (.bool true), H⟩) (h2 : a = b → K ⟨upd e d (.bool false), H⟩) : StepR F ⟨some d, .bin .neq, [x, y], none⟩ ⟨e, H⟩ K := by
  by_cases h : a = b
  · exact S.neq hx hy (decide_eq_false (by simpa using h)) (h2 h)
  · exact S.neq hx hy (decide_eq_true h) (h1 h)
theorem lssC (h1 : a < b → K ⟨upd e d (.bool true), H⟩) (h2 : ¬ a < b → K ⟨upd e d (.bool false), H⟩) : StepR F ⟨some d, .bin .lss, [x, y], none⟩ ⟨e, H⟩ K := by
  by_cases h : a < b
  · exact S.lss hx hy (decide_eq_true h) (h1 h)
  · exact S.lss hx hy (decide_eq_false h) (h2 h)
theorem leqC (h1 : a ≤ b → K ⟨upd e d (.bool true), H⟩) (h2 : ¬ a ≤ b → K ⟨upd e d (.bool false), H⟩) : StepR F ⟨some d, .bin .leq, [x, y], none⟩ ⟨e, H⟩ K := by
  by_cases h : a ≤ b
  · exact S.leq hx hy (decide_eq_true h) (h1 h)
  · exact S.leq hx hy (decide_eq_false h) (h2 h)
theorem gtrC (h1 : b < a → K ⟨upd e d (.bool true), H⟩) (h2 : ¬ b < a → K ⟨upd e d (.bool false), H⟩) : StepR F ⟨some d, .bin .gtr, [x, y], none⟩ ⟨e, H⟩ K := by
  by_cases h : b < a
  · exact S.gtr hx hy (decide_eq_true h) (h1 h)
  · exact S.gtr hx hy (decide_eq_false h) (h2 h)
theorem geqC (h1 : b ≤ a → K ⟨upd e d (.bool true), H⟩) (h2 : ¬ b ≤ a → K ⟨upd e d (.bool false), H⟩) : StepR F ⟨some d, .bin .geq, [x, y], none⟩ ⟨e, H⟩ K := by
  by_cases h : b ≤ a
  · exact S.geq hx hy (decide_eq_true h) (h1 h)
  · exact S.geq hx hy (decide_eq_false h) (h2 h)
end int

theorem bytes_inj {a b : ByteArray} (h : a.toList = b.toList) : a = b := by
  rw [ByteArray.toList_eq, ByteArray.toList_eq] at h
  have := congrArg List.toArray h
  simp at this
  cases a; cases b
  simpa using this

theorem eqlSC {a b : ByteArray} (hx : V e H x (.str a)) (hy : V e H y (.str b)) (h1 : a = b → K ⟨upd e d (.bool true), H⟩) (h2 : ¬ a = b → K ⟨upd e d (.bool false), H⟩) : StepR F ⟨some d, .bin .eql, [x, y], none⟩ ⟨e, H⟩ K := by
  by_cases h : a.toList = b.toList
  · exact S.eqlS hx hy (by simpa using h) (h1 (bytes_inj h))
  · exact S.eqlS hx hy (by simpa using h) (h2 (by rintro rfl; exact h rfl))
theorem neqSC {a b : ByteArray} (hx : V e H x (.str a)) (hy : V e H y (.str b)) (h1 : a ≠ b → K ⟨upd e d (.bool true), H⟩) (h2 : a = b → K ⟨upd e d (.bool false), H⟩) : StepR F ⟨some d, .bin .neq, [x, y], none⟩ ⟨e, H⟩ K := by
  by_cases h : a.toList = b.toList
  · exact S.neqS hx hy (by simpa using h) (h2 (bytes_inj h))
  · exact S.neqS hx hy (by simpa using h) (h1 (by rintro rfl; exact h rfl))
end S

namespace Run
variable {F : Nat → List AV → AV → Prop} {Q : Ex → St → Prop} {st : St} {c : Opd} {x y : ACode}
theorem condT (hc : st.ev c = .bool true) (h : Run F x Q st) : Run F (.cond c x y) Q st := Run.cond hc h
theorem condF (hc : st.ev c = .bool false) (h : Run F y Q st) : Run F (.cond c x y) Q st := Run.cond hc (by simpa using h)
end Run

namespace End
variable {e : Nat → AV} {H : Heap} {t : Nat} {v r : AV}

def isView : AV → Bool
  | .view .. => true
  | _ => false

theorem tmp (h : e t = v) (hv : isView v = false) (hf : freezeAQ H v fun x _ => x = r) : Fin [.tmp t] r .ret ⟨e, H⟩ := by
  subst h
  refine ⟨?_⟩
  simp only [Ends, resQ, resOne]
  unfold handQ
  split
  · rename_i he
    rw [he] at hv
    simp [isView] at hv
  · exact hf

theorem own {s g sz n ty : Nat} {es : List (List AV)} (h : e t = .view s g sz n) (hH : H s = (g, some (.arr ty sz es))) (hn : es.length = n) : Fin [.tmp t] (.own ty sz es) .ret ⟨e, H⟩ := by
  refine ⟨?_⟩
  simp only [Ends, resQ, resOne]
  rw [h]
  simp only [handQ, hH]
  exact ⟨trivial, trivial, hn, trivial⟩

theorem cell {s g k : Nat} {cs : List AV} {sz : Option Nat} (h : e t = .ptr s g k) (hH : H s = (g, some (.box cs))) (ht : takeAt sz cs k = some v) (hv : isView v = false) (hf : freezeAQ H v fun x _ => x = r) : Fin [.cell t sz] r .ret ⟨e, H⟩ := by
  refine ⟨?_⟩
  simp only [Ends, resQ, resOne]
  rw [h]
  simp only [loadQ, hH, ht, someQ]
  refine ⟨trivial, ?_⟩
  unfold handQ
  split
  · simp [isView] at hv
  · exact hf

theorem all {r1 r2 : ARes} {rs : List ARes} {st : St} (h : resAll st (r1 :: r2 :: rs) fun vs => freezeALQ st.H vs fun x _ => AV.tup x = r) : Fin (r1 :: r2 :: rs) r .ret st := ⟨h⟩

end End
end Go.Ev
