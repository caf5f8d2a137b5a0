/- It is proved that TraceTells answers true for every trace, pair of numbers and pair of times (the given statement TraceTellsSaid); no condition is added. -/
import Derived.Test.YthlmfkeeneeaoaaAvR0
import Derived.Test.YthlmfkeeneeaoaaAvL6
set_option linter.all false
set_option linter.unnecessarySimpa false
set_option linter.unusedVariables false
set_option linter.unusedSimpArgs false
namespace Go.Av
open Go Go.ChangeShapes Go.WideShapes Go.ChangeAt Go.RowKit
theorem reads_array2 {P : Program} {w : World} {α : Type} {f : α → AVal} {g : α → Prop} {t e : TypeId} (ht : P.underlying t = some (.array 2 e)) (hc : P.cellsOf t = 2 * P.cellsOf e) (he : Reads P w e f g) :
    Reads P w t (fun x : α × α => .agg ((f x.1).cells ++ (f x.2).cells)) (fun x => g x.1 ∧ g x.2) := by
  intro H enc spare held fuel cs x h
  obtain ⟨xs, n, _, rfl, hl, hlen, hfi⟩ := DataW.trod_array ht h
  match xs, hlen with
  | [y0, y1], _ =>
    obtain ⟨a, ga, ra⟩ := he H enc spare held n _ _ (by simpa using hfi 0 (by omega))
    obtain ⟨b, gb, rb⟩ := he H enc spare held n _ _ (by simpa using hfi 1 (by omega))
    refine ⟨(a, b), ⟨ga, gb⟩, ?_⟩
    rw [List.take_of_length_le (by rw [List.length_drop]; omega)] at rb
    have := ra.append rb
    rw [List.take_append_drop] at this
    exact this
theorem rel_arr {P : Program} {w : World} {r : Reach} {b0 : Nat} {t : TypeId} {n e : Nat} {v : Value} {xs : List AVal} (ht : P.underlying t = some (.array n e)) (hv : Value.okWide P w r b0 t v) (h : RelL (topCx w) xs v.cells.toList) : Rel (topCx w) (.agg xs) v := by
  simp only [Value.okWide, ht] at hv
  obtain ⟨cs, rfl, _⟩ := hv
  exact ⟨cs.toList, rfl, h⟩
end Go.Av
namespace Go.Proofs.Ythlmfkeeneeaoaa
open Go Go.Av Go.ChangeShapes Go.WideShapes Go.ChangeAt Go.RowKit

theorem rdInts (W : World) : Reads Try.prog W 53 (fun x : Int × Int => .agg [.v (.int .i64 x.1), .v (.int .i64 x.2)]) (fun x => (Lit.int .i64 x.1).wf = true ∧ (Lit.int .i64 x.2).wf = true) := reads_array2 Try.underlying53 (by kernel_rfl) (rdInt W)
theorem rdI64s (W : World) : Reads Try.prog W 54 (fun x : Int × Int => .agg [.v (.int .i64 x.1), .v (.int .i64 x.2)]) (fun x => (Lit.int .i64 x.1).wf = true ∧ (Lit.int .i64 x.2).wf = true) := reads_array2 Try.underlying54 (by kernel_rfl) (rdI64 W)

namespace traceTells
set_option maxRecDepth 100000 in
theorem lifted (os : Os) (started : os.Started) (H : Type) (enc : TypeId × Value → H) :
    ReturnsInHanded {} Try.checked os 6 .any (Rows.traceTellsSpec.pre6 enc Try.prog Try.f6 Rows.traceTellsRow.domain false) (Rows.traceTellsSpec.post enc Try.prog Try.f6 false true false false) := by
  refine returnsInHanded_of_change (C := Try.checked) own started (by kernel_rfl) Try.func6
    (ChangeSpec.witness6 (enc := enc) (C := Try.checked) false ⟨#[], #[.agg #[.slice none 0 0, .int .i64 0], .agg #[.int .i64 0, .int .i64 0], .agg #[.int .i64 0, .int .i64 0]], []⟩ 8 (by kernel_rfl) (by kernel_rfl) (by kernel_rfl) (by kernel_rfl)) ?_
  intro W base args ds gs before hval0 hW hcnd _
  have hval : ∀ (j : Nat) t v, Try.f6.params[j]? = some t → args[j]? = some v → Value.okWide Try.prog W .any base t v := hval0
  have hW' := hW
  obtain ⟨p, q, hA0, hV, rfl, hfz, hnd⟩ := hW
  have hA : DataW.TrodAll enc Try.prog W 0 (fun _ => true) true Try.f6.params.toList args.toList ds p := hA0
  rw [Try.params6] at hA hval
  obtain ⟨v0, vs0, d0, ds0, p0, q0, hargs, rfl, rfl, ⟨n0, h0⟩, r0⟩ := trodAll_cons hA
  obtain ⟨v1, vs1, d1, ds1, p1, q1, rfl, rfl, rfl, ⟨n1, h1⟩, r1⟩ := trodAll_cons r0
  obtain ⟨v2, vs2, d2, ds2, p2, q2, rfl, rfl, rfl, ⟨n2, h2⟩, r2⟩ := trodAll_cons r1
  obtain ⟨rfl, rfl, rfl⟩ := trodAll_nil r2
  obtain rfl : args = #[v0, v1, v2] := by cases args; simp_all
  obtain ⟨t, _, rt⟩ := rdTrace W H enc _ _ _ _ _ h0
  obtain ⟨⟨u, v⟩, _, rn⟩ := rdInts W H enc _ _ _ _ _ h1
  obtain ⟨⟨x, y⟩, _, rp⟩ := rdI64s W H enc _ _ _ _ _ h2
  have e0 : Rel (topCx W) (aTrace t) v0 := rel_agg (xs := (aTrace t).cells) Try.underlying24 (hval 0 24 v0 rfl rfl) rt
  have e1 := rel_arr Try.underlying53 (hval 1 53 v1 rfl rfl) rn
  have e2 := rel_arr Try.underlying54 (hval 2 54 v2 rfl rfl) rp
  have hc := (TraceTells_walk t u v x y (fun _ => none) 0 (by simp)).2.2 (topCx W) [v0, _, _] (topHeap W) (fun _ _ => rfl) ⟨_, _, rfl, e0, _, _, rfl, e1, _, _, rfl, e2, rfl⟩
  refine hc.mono ?_
  rintro e W' ⟨c', y, rfl, rfl, hH, hr, hle⟩
  obtain ⟨rfl, _⟩ := hr
  refine ⟨_, rfl, post_law hlaid hmaps hslices (by rw [Try.params6]; decide +kernel) hW' hle Try.underlying4 (by kernel_rfl) rfl (fun hg => by rw [hg]; rfl)⟩

theorem over : Rows.traceTellsRow.holds Try.pinned (OpenSpec.ofChange Rows.traceTellsSpec) :=
  OpenClaim.holds_of_wide 6 Try.f6 rfl rfl rfl rfl rfl rfl rfl ⟨rfl, rfl, rfl, rfl, rfl⟩ rfl rfl rfl rfl rfl (by kernel_rfl) Try.func6 (by kernel_rfl)
    (of_decide_eq_true (by kernel_rfl)) (by unfold Func.isWrapper; first | (rw [if_pos (by decide +kernel)]; kernel_rfl) | (rw [if_neg (by decide +kernel)]; exact ⟨rfl, rfl⟩))
    (fun os started H enc _ => lifted os started H enc)
theorem proved : Rows.TraceTellsSaid := over
end traceTells
end Go.Proofs.Ythlmfkeeneeaoaa
