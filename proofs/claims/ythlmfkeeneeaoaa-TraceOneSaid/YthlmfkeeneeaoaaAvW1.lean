/- Generic: a calculus of what calls do to memory that is given by its values. It states nothing of the program. -/
import Derived.Test.YthlmfkeeneeaoaaAvW0
set_option linter.all false
set_option linter.unnecessarySimpa false
set_option linter.unusedVariables false
set_option linter.unusedSimpArgs false
namespace Go.Proofs.Ythlmfkeeneeaoaa
open Go Go.Av

/-- How long a frame held of which something holds, between times. -/
def share (p : Put → Bool) (t : Trace) (a z : Int) (i : Nat) : Int := match t.frames[i]? with
  | some f => if f.puts.any p then mxI (mnI (endT t i) z - mxI f.time a) 0 else 0
  | none => 0
def longF (p : Put → Bool) (t : Trace) (a z : Int) : Int × Int :=
  if right t = false then (0, 330) else if (!timeOK a || (!timeOK z || decide (a > z))) = true then (0, 2) else (sumTo (share p t a z) t.frames.length, 0)
def aII (x : Int × Int) : AVal := .tup [.v (.int .i64 x.1), .v (.int .i64 x.2)]
attribute [go_sem] aII

theorem timeOK_iff {n : Int} : timeOK n = true ↔ 0 ≤ n ∧ n ≤ 1125899906842624 := by simp [timeOK]
theorem rightL_get {fin : Int} : ∀ {l : List Frame} {prev : Option Frame} {i : Nat} {f : Frame}, rightL fin prev l = true → l[i]? = some f → frameOK fin f = true
  | g :: r, prev, 0, f, h, hf => by
    simp at hf; subst hf
    simp [rightL] at h; exact h.1.1
  | g :: r, prev, i + 1, f, h, hf => by
    simp [rightL] at h
    exact rightL_get h.2 (by simpa using hf)
theorem right_len {t : Trace} (h : right t = true) : t.frames.length ≤ 4000 := by simp [right] at h; omega
theorem right_fin {t : Trace} (h : right t = true) : 0 ≤ t.fin ∧ t.fin ≤ 1125899906842624 := by simp [right] at h; exact timeOK_iff.1 h.2.1
theorem right_get {t : Trace} (h : right t = true) {i : Nat} {f : Frame} (hf : t.frames[i]? = some f) : 0 ≤ f.time ∧ f.time ≤ 1125899906842624 ∧ f.time ≤ t.fin ∧ picF [] f.puts = true := by
  simp only [right, Bool.and_eq_true] at h
  have := rightL_get h.2.2 hf
  simp [frameOK] at this
  have h1 := timeOK_iff.1 this.1
  exact ⟨h1.1, h1.2, this.2.1, this.2.2⟩
theorem right_end {t : Trace} (h : right t = true) (i : Nat) : 0 ≤ endT t i ∧ endT t i ≤ 1125899906842624 := by
  unfold endT
  split
  · rename_i f hf
    have := right_get h hf
    omega
  · exact right_fin h
theorem mnI_min (a b : Int) : mnI a b = min a b := by unfold mnI; split <;> omega
theorem mxI_max (a b : Int) : mxI a b = max a b := by unfold mxI; split <;> omega
theorem share_bd {p : Put → Bool} {t : Trace} {a z : Int} (hr : right t = true) (ha : timeOK a = true) (hz : timeOK z = true) (i : Nat) : 0 ≤ share p t a z i ∧ share p t a z i ≤ 1125899906842624 := by
  unfold share
  rw [timeOK_iff] at ha hz
  split
  · rename_i f hf
    have h1 := right_get hr hf
    have h2 := right_end hr i
    split
    · rw [mxI_max, mnI_min, mxI_max]; omega
    · omega
  · omega
theorem sumTo_bd {f : Nat → Int} {c : Int} (h : ∀ i, 0 ≤ f i ∧ f i ≤ c) : ∀ n, 0 ≤ sumTo f n ∧ sumTo f n ≤ n * c
  | 0 => by simp [sumTo]
  | n + 1 => by
    have h1 := sumTo_bd h n
    have h2 := h n
    simp only [sumTo]
    have : ((n + 1 : Nat) : Int) * c = n * c + c := by rw [Int.natCast_add, Int.add_mul]; simp
    omega

theorem long_spec (t : Trace) (a z : Int) (g : FuncId) (caps : List AVal) (need : List (Nat × AObj)) (p : Put → Bool) (hp0 : PredE Try.prog g caps need aPut p) :
    PureE Try.prog 37 [aTrace t, .v (.int .i64 a), .v (.int .i64 z), .fn (.func g) caps] need (aII (longF p t a z)) := by
  intro F b hn
  refine callE_of hT (fn := Try.f37) rfl rfl rfl (by simp [fnt]) (by simp) fun htop hW => ?_
  have hcl := hp0.cl F b hn htop
  have hcl7 := hp0.cl F (b + 7) hn (fun id h => htop id (by omega))
  have herr : (errT (right t) != 0) = !right t := by cases right t <;> rfl
  repeat' (first
    | (refine ⟨_, _, _, all_spec t _ _, ?_⟩; simp only [Nat.add_assoc, go_sem, Nat.reduceLT, Nat.reduceEqDiff, Nat.reduceAdd, Nat.reduceSub, Nat.reduceMul, Nat.reduceLeDiff, reduceIte, reduceCtorEq, Int.lt_irrefl, Nat.reduceMod, Nat.reduceBEq, eq_self, false_and, and_false])
    | refine wpA_seq ?_
    | refine wpA_skip ?_
    | (refine wpA_exit ?_)
    | (refine hK _ _ ?_; clear hK K)
    | (refine hK _ _ rfl ?_; clear hK K)
    | (refine wpA_reg hT hE fun K hK => ?_; simp only [go_sem, Nat.reduceLT, Nat.reduceEqDiff, Nat.reduceAdd, Nat.reduceSub, Nat.reduceMul, Nat.reduceLeDiff, reduceIte, reduceCtorEq, Int.lt_irrefl, Nat.reduceMod, Nat.reduceBEq, eq_self, false_and, and_false, herr])
    | (refine wpA_drw hT hE hmix (by kernel_rfl) fun K hK => ?_; simp only [go_sem, Nat.reduceLT, Nat.reduceEqDiff, Nat.reduceAdd, Nat.reduceSub, Nat.reduceMul, Nat.reduceLeDiff, reduceIte, reduceCtorEq, Int.lt_irrefl, Nat.reduceMod, Nat.reduceBEq, eq_self, false_and, and_false, herr])
    | (refine gd_t (fun h => ?_) (fun h => ?_) <;> (try simp only [h, go_sem, Nat.reduceLT, Nat.reduceEqDiff, Nat.reduceAdd, Nat.reduceSub, Nat.reduceMul, Nat.reduceLeDiff, reduceIte, reduceCtorEq, Int.lt_irrefl, Nat.reduceMod, Nat.reduceBEq, eq_self, false_and, and_false, herr]))
    | (refine gd_f (fun h => ?_) (fun h => ?_) <;> (try simp only [h, go_sem, Nat.reduceLT, Nat.reduceEqDiff, Nat.reduceAdd, Nat.reduceSub, Nat.reduceMul, Nat.reduceLeDiff, reduceIte, reduceCtorEq, Int.lt_irrefl, Nat.reduceMod, Nat.reduceBEq, eq_self, false_and, and_false, herr]))
    | refine wpA_block ?_
    | (refine wpA_cond rfl (fun h => ?_) (fun h => ?_) <;> (try (cases h; done)))
    | (refine wpA_ret (fin_pure (.inl rfl) rfl (by simp only [go_sem, Nat.reduceLT, Nat.reduceEqDiff, Nat.reduceAdd, Nat.reduceSub, Nat.reduceMul, Nat.reduceLeDiff, reduceIte, reduceCtorEq, Int.lt_irrefl, Nat.reduceMod, Nat.reduceBEq, eq_self, false_and, and_false, herr]; rfl) ?_ (hW _)); (try simp only [go_sem, Nat.reduceLT, Nat.reduceEqDiff, Nat.reduceAdd, Nat.reduceSub, Nat.reduceMul, Nat.reduceLeDiff, reduceIte, reduceCtorEq, Int.lt_irrefl, Nat.reduceMod, Nat.reduceBEq, eq_self, false_and, and_false, herr]))
    | (refine wpA_ret (fin_pureM (.inl rfl) (by simp only [go_sem, Nat.reduceLT, Nat.reduceEqDiff, Nat.reduceAdd, Nat.reduceSub, Nat.reduceMul, Nat.reduceLeDiff, reduceIte, reduceCtorEq, Int.lt_irrefl, Nat.reduceMod, Nat.reduceBEq, eq_self, false_and, and_false]) (by simp only [go_sem, Nat.reduceLT, Nat.reduceEqDiff, Nat.reduceAdd, Nat.reduceSub, Nat.reduceMul, Nat.reduceLeDiff, reduceIte, reduceCtorEq, Int.lt_irrefl, Nat.reduceMod, Nat.reduceBEq, eq_self, false_and, and_false, herr]; rfl) ?_ (hW _)); (try simp only [go_sem, Nat.reduceLT, Nat.reduceEqDiff, Nat.reduceAdd, Nat.reduceSub, Nat.reduceMul, Nat.reduceLeDiff, reduceIte, reduceCtorEq, Int.lt_irrefl, Nat.reduceMod, Nat.reduceBEq, eq_self, false_and, and_false, herr]))
    | (refine ⟨_, [], [], PureE.call (Check_spec t) (by first | (simp; done) | (simp [hpF_add, hpF_lo]; done) | exact need_hp htop hn | exact need_hp2 htop hn), ?_⟩; (try simp only [go_sem, Nat.reduceLT, Nat.reduceEqDiff, Nat.reduceAdd, Nat.reduceSub, Nat.reduceMul, Nat.reduceLeDiff, reduceIte, reduceCtorEq, Int.lt_irrefl, Nat.reduceMod, Nat.reduceBEq, eq_self, false_and, and_false, herr]))
    | (refine ⟨_, _, [], PureE.toS (Check_spec t), by first | (simp; done) | (simp [hpF_add, hpF_lo]; done) | exact need_hp htop hn | exact need_hp2 htop hn, by simp, ?_⟩; (try simp only [go_sem, Nat.reduceLT, Nat.reduceEqDiff, Nat.reduceAdd, Nat.reduceSub, Nat.reduceMul, Nat.reduceLeDiff, reduceIte, reduceCtorEq, Int.lt_irrefl, Nat.reduceMod, Nat.reduceBEq, eq_self, false_and, and_false, herr]))
    | (refine ⟨_, [], [], PureE.call (time_spec a) (by first | (simp; done) | (simp [hpF_add, hpF_lo]; done) | exact need_hp htop hn | exact need_hp2 htop hn), ?_⟩; (try simp only [go_sem, Nat.reduceLT, Nat.reduceEqDiff, Nat.reduceAdd, Nat.reduceSub, Nat.reduceMul, Nat.reduceLeDiff, reduceIte, reduceCtorEq, Int.lt_irrefl, Nat.reduceMod, Nat.reduceBEq, eq_self, false_and, and_false, herr]))
    | (refine ⟨_, _, [], PureE.toS (time_spec a), by first | (simp; done) | (simp [hpF_add, hpF_lo]; done) | exact need_hp htop hn | exact need_hp2 htop hn, by simp, ?_⟩; (try simp only [go_sem, Nat.reduceLT, Nat.reduceEqDiff, Nat.reduceAdd, Nat.reduceSub, Nat.reduceMul, Nat.reduceLeDiff, reduceIte, reduceCtorEq, Int.lt_irrefl, Nat.reduceMod, Nat.reduceBEq, eq_self, false_and, and_false, herr]))
    | (refine ⟨_, [], [], PureE.call (time_spec z) (by first | (simp; done) | (simp [hpF_add, hpF_lo]; done) | exact need_hp htop hn | exact need_hp2 htop hn), ?_⟩; (try simp only [go_sem, Nat.reduceLT, Nat.reduceEqDiff, Nat.reduceAdd, Nat.reduceSub, Nat.reduceMul, Nat.reduceLeDiff, reduceIte, reduceCtorEq, Int.lt_irrefl, Nat.reduceMod, Nat.reduceBEq, eq_self, false_and, and_false, herr]))
    | (refine ⟨_, _, [], PureE.toS (time_spec z), by first | (simp; done) | (simp [hpF_add, hpF_lo]; done) | exact need_hp htop hn | exact need_hp2 htop hn, by simp, ?_⟩; (try simp only [go_sem, Nat.reduceLT, Nat.reduceEqDiff, Nat.reduceAdd, Nat.reduceSub, Nat.reduceMul, Nat.reduceLeDiff, reduceIte, reduceCtorEq, Int.lt_irrefl, Nat.reduceMod, Nat.reduceBEq, eq_self, false_and, and_false, herr]))
    | fail)
  · simp_all [longF]
  · simp_all [longF]
  · simp_all [longF]
  · simp_all [longF]
  rename_i h1 h2 h3
  have hr : right t = true := by simpa using h1
  have ha : timeOK a = true := by simpa using h2
  have hz : timeOK z = true := by simpa using h3
  have hlong : longF p t a z = (sumTo (share p t a z) t.frames.length, 0) := by
    have haz : decide (a > z) = false := h
    simp [longF, hr, ha, hz] at haz ⊢; omega
  refine wpA_kp [5, 6, 7, 10, 32] [1, 2, 3, 4, 5] (by simp) (by simp) rfl fun K hK => ?_
  try simp only [go_sem, Nat.reduceLT, Nat.reduceEqDiff, Nat.reduceAdd, Nat.reduceSub, Nat.reduceMul, Nat.reduceLeDiff, reduceIte, reduceCtorEq, Int.lt_irrefl, Nat.reduceMod, Nat.reduceBEq, eq_self, false_and, and_false, hW _, hcl]
  refine hK _ ?_; clear hK K
  refine wpA_rgF (gf := 48) (caps := [.ptr (b + 4) 0]) 7 rfl t.frames.length (ysT t)
    (fun i => [.blk 2 [.v (.int .i64 a)], .blk 2 [.v (.int .i64 z)], .blk 71 [.fn (.func g) caps], .blk 2 [.v (.int .i64 (sumTo (share p t a z) i))], .blk 24 [.sl (t.frames.map aFrame), .v (.int .i64 t.fin)]]) (fun _ => .dead) (fun _ => True) trivial rfl
    (by simp only [go_sem, Nat.reduceLT, Nat.reduceEqDiff, Nat.reduceAdd, Nat.reduceSub, Nat.reduceMul, Nat.reduceLeDiff, reduceIte, reduceCtorEq, Int.lt_irrefl, Nat.reduceMod, Nat.reduceBEq, eq_self, false_and, and_false]) (fun _ => rfl) (by simp [fnt]) ?_ (fun _ _ => wk_dead) (fun rD rR X => all1_iter t (b + 4) _ _ _ _ X (fun i => by simp only [List.cons_append, List.nil_append, go_sem, Nat.reduceLT, Nat.reduceEqDiff, Nat.reduceAdd, Nat.reduceSub, Nat.reduceMul, Nat.reduceLeDiff, reduceIte, reduceCtorEq, Int.lt_irrefl, Nat.reduceMod, Nat.reduceBEq, eq_self, false_and, and_false]) (fun i => topF_hp (by simp))) ?_ ?_
  · intro i hi
    obtain ⟨f, hf, _, _⟩ := get_of_lt hi
    rw [ysT_eq hf]
    refine ⟨rfl, by simp only [go_sem, Nat.reduceLT, Nat.reduceEqDiff, Nat.reduceAdd, Nat.reduceSub, Nat.reduceMul, Nat.reduceLeDiff, reduceIte, reduceCtorEq, Int.lt_irrefl, Nat.reduceMod, Nat.reduceBEq, eq_self, false_and, and_false]⟩
  · intro i hi
    obtain ⟨f, hf, _, _⟩ := get_of_lt hi
    rw [ysT_eq hf]
    intro _ rR
    refine wpA_K fun K hK => ?_
    simp only [go_sem, Nat.reduceLT, Nat.reduceEqDiff, Nat.reduceAdd, Nat.reduceSub, Nat.reduceMul, Nat.reduceLeDiff, reduceIte, reduceCtorEq, Int.lt_irrefl, Nat.reduceMod, Nat.reduceBEq, eq_self, false_and, and_false, List.cons_append, List.nil_append, hcl]
    refine hK _ ?_; clear hK K
    repeat' (first
      | refine wpA_seq ?_
      | refine wpA_skip ?_
      | (refine wpA_exit ?_)
      | (refine hK _ _ ?_; clear hK K)
      | (refine hK _ _ rfl ?_; clear hK K)
      | (refine wpA_reg hT hE fun K hK => ?_; simp only [go_sem, Nat.reduceLT, Nat.reduceEqDiff, Nat.reduceAdd, Nat.reduceSub, Nat.reduceMul, Nat.reduceLeDiff, reduceIte, reduceCtorEq, Int.lt_irrefl, Nat.reduceMod, Nat.reduceBEq, eq_self, false_and, and_false])
      | (refine wpA_drw hT hE hmix (by kernel_rfl) fun K hK => ?_; simp only [go_sem, Nat.reduceLT, Nat.reduceEqDiff, Nat.reduceAdd, Nat.reduceSub, Nat.reduceMul, Nat.reduceLeDiff, reduceIte, reduceCtorEq, Int.lt_irrefl, Nat.reduceMod, Nat.reduceBEq, eq_self, false_and, and_false])
      | (refine gd_t (fun h => ?_) (fun h => ?_) <;> (try simp only [h, go_sem, Nat.reduceLT, Nat.reduceEqDiff, Nat.reduceAdd, Nat.reduceSub, Nat.reduceMul, Nat.reduceLeDiff, reduceIte, reduceCtorEq, Int.lt_irrefl, Nat.reduceMod, Nat.reduceBEq, eq_self, false_and, and_false]))
      | (refine gd_f (fun h => ?_) (fun h => ?_) <;> (try simp only [h, go_sem, Nat.reduceLT, Nat.reduceEqDiff, Nat.reduceAdd, Nat.reduceSub, Nat.reduceMul, Nat.reduceLeDiff, reduceIte, reduceCtorEq, Int.lt_irrefl, Nat.reduceMod, Nat.reduceBEq, eq_self, false_and, and_false]))
      | refine wpA_block ?_
      | (refine wpA_cond rfl (fun h => ?_) (fun h => ?_) <;> (try (cases h; done)))
      | (refine wpA_ret (fin_pure (.inl rfl) rfl (by simp only [go_sem, Nat.reduceLT, Nat.reduceEqDiff, Nat.reduceAdd, Nat.reduceSub, Nat.reduceMul, Nat.reduceLeDiff, reduceIte, reduceCtorEq, Int.lt_irrefl, Nat.reduceMod, Nat.reduceBEq, eq_self, false_and, and_false]; rfl) ?_ (hW _)); (try simp only [go_sem, Nat.reduceLT, Nat.reduceEqDiff, Nat.reduceAdd, Nat.reduceSub, Nat.reduceMul, Nat.reduceLeDiff, reduceIte, reduceCtorEq, Int.lt_irrefl, Nat.reduceMod, Nat.reduceBEq, eq_self, false_and, and_false]))
      | (refine wpA_ret (fin_pureM (.inl rfl) (by simp only [go_sem, Nat.reduceLT, Nat.reduceEqDiff, Nat.reduceAdd, Nat.reduceSub, Nat.reduceMul, Nat.reduceLeDiff, reduceIte, reduceCtorEq, Int.lt_irrefl, Nat.reduceMod, Nat.reduceBEq, eq_self, false_and, and_false]) (by simp only [go_sem, Nat.reduceLT, Nat.reduceEqDiff, Nat.reduceAdd, Nat.reduceSub, Nat.reduceMul, Nat.reduceLeDiff, reduceIte, reduceCtorEq, Int.lt_irrefl, Nat.reduceMod, Nat.reduceBEq, eq_self, false_and, and_false]; rfl) ?_ (hW _)); (try simp only [go_sem, Nat.reduceLT, Nat.reduceEqDiff, Nat.reduceAdd, Nat.reduceSub, Nat.reduceMul, Nat.reduceLeDiff, reduceIte, reduceCtorEq, Int.lt_irrefl, Nat.reduceMod, Nat.reduceBEq, eq_self, false_and, and_false]))
      | fail)
    refine ⟨rfl, rfl, rfl, fun rB hrB => ?_⟩
    refine wpA_K fun K hK => ?_
    simp only [go_sem, Nat.reduceLT, Nat.reduceEqDiff, Nat.reduceAdd, Nat.reduceSub, Nat.reduceMul, Nat.reduceLeDiff, reduceIte, reduceCtorEq, Int.lt_irrefl, Nat.reduceMod, Nat.reduceBEq, eq_self, false_and, and_false, List.cons_append, List.nil_append, hcl]
    refine hK _ ?_; clear hK K
    repeat' (first
      | refine wpA_seq ?_
      | refine wpA_skip ?_
      | (refine wpA_exit ?_)
      | (refine hK _ _ ?_; clear hK K)
      | (refine hK _ _ rfl ?_; clear hK K)
      | (refine wpA_reg hT hE fun K hK => ?_; simp only [go_sem, Nat.reduceLT, Nat.reduceEqDiff, Nat.reduceAdd, Nat.reduceSub, Nat.reduceMul, Nat.reduceLeDiff, reduceIte, reduceCtorEq, Int.lt_irrefl, Nat.reduceMod, Nat.reduceBEq, eq_self, false_and, and_false])
      | (refine wpA_drw hT hE hmix (by kernel_rfl) fun K hK => ?_; simp only [go_sem, Nat.reduceLT, Nat.reduceEqDiff, Nat.reduceAdd, Nat.reduceSub, Nat.reduceMul, Nat.reduceLeDiff, reduceIte, reduceCtorEq, Int.lt_irrefl, Nat.reduceMod, Nat.reduceBEq, eq_self, false_and, and_false])
      | (refine gd_t (fun h => ?_) (fun h => ?_) <;> (try simp only [h, go_sem, Nat.reduceLT, Nat.reduceEqDiff, Nat.reduceAdd, Nat.reduceSub, Nat.reduceMul, Nat.reduceLeDiff, reduceIte, reduceCtorEq, Int.lt_irrefl, Nat.reduceMod, Nat.reduceBEq, eq_self, false_and, and_false]))
      | (refine gd_f (fun h => ?_) (fun h => ?_) <;> (try simp only [h, go_sem, Nat.reduceLT, Nat.reduceEqDiff, Nat.reduceAdd, Nat.reduceSub, Nat.reduceMul, Nat.reduceLeDiff, reduceIte, reduceCtorEq, Int.lt_irrefl, Nat.reduceMod, Nat.reduceBEq, eq_self, false_and, and_false]))
      | refine wpA_block ?_
      | (refine wpA_cond rfl (fun h => ?_) (fun h => ?_) <;> (try (cases h; done)))
      | (refine wpA_ret (fin_pure (.inl rfl) rfl (by simp only [go_sem, Nat.reduceLT, Nat.reduceEqDiff, Nat.reduceAdd, Nat.reduceSub, Nat.reduceMul, Nat.reduceLeDiff, reduceIte, reduceCtorEq, Int.lt_irrefl, Nat.reduceMod, Nat.reduceBEq, eq_self, false_and, and_false]; rfl) ?_ (hW _)); (try simp only [go_sem, Nat.reduceLT, Nat.reduceEqDiff, Nat.reduceAdd, Nat.reduceSub, Nat.reduceMul, Nat.reduceLeDiff, reduceIte, reduceCtorEq, Int.lt_irrefl, Nat.reduceMod, Nat.reduceBEq, eq_self, false_and, and_false]))
      | (refine wpA_ret (fin_pureM (.inl rfl) (by simp only [go_sem, Nat.reduceLT, Nat.reduceEqDiff, Nat.reduceAdd, Nat.reduceSub, Nat.reduceMul, Nat.reduceLeDiff, reduceIte, reduceCtorEq, Int.lt_irrefl, Nat.reduceMod, Nat.reduceBEq, eq_self, false_and, and_false]) (by simp only [go_sem, Nat.reduceLT, Nat.reduceEqDiff, Nat.reduceAdd, Nat.reduceSub, Nat.reduceMul, Nat.reduceLeDiff, reduceIte, reduceCtorEq, Int.lt_irrefl, Nat.reduceMod, Nat.reduceBEq, eq_self, false_and, and_false]; rfl) ?_ (hW _)); (try simp only [go_sem, Nat.reduceLT, Nat.reduceEqDiff, Nat.reduceAdd, Nat.reduceSub, Nat.reduceMul, Nat.reduceLeDiff, reduceIte, reduceCtorEq, Int.lt_irrefl, Nat.reduceMod, Nat.reduceBEq, eq_self, false_and, and_false]))
      | (refine ⟨_, [], [], PureE.call (ContainsFunc_spec f.puts g caps need p hp0) (by first | (simp; done) | (simp [hpF_add, hpF_lo]; done) | exact need_hp htop hn | exact need_hp2 htop hn), ?_⟩; (try simp only [go_sem, Nat.reduceLT, Nat.reduceEqDiff, Nat.reduceAdd, Nat.reduceSub, Nat.reduceMul, Nat.reduceLeDiff, reduceIte, reduceCtorEq, Int.lt_irrefl, Nat.reduceMod, Nat.reduceBEq, eq_self, false_and, and_false]))
      | (refine ⟨_, _, [], PureE.toS (ContainsFunc_spec f.puts g caps need p hp0), by first | (simp; done) | (simp [hpF_add, hpF_lo]; done) | exact need_hp htop hn | exact need_hp2 htop hn, by simp, ?_⟩; (try simp only [go_sem, Nat.reduceLT, Nat.reduceEqDiff, Nat.reduceAdd, Nat.reduceSub, Nat.reduceMul, Nat.reduceLeDiff, reduceIte, reduceCtorEq, Int.lt_irrefl, Nat.reduceMod, Nat.reduceBEq, eq_self, false_and, and_false]))
      | fail)
    · refine ⟨trivial, ?_⟩
      have hsh : share p t a z i = mxI (mnI (endT t i) z - mxI f.time a) 0 := by simp [share, hf, h]
      have hsum : IntKind.i64.wrap (sumTo (share p t a z) i + mxI (IntKind.i64.wrap (mnI (endT t i) z - mxI f.time a)) 0) = sumTo (share p t a z) (i + 1) := by
        have b1 := right_get hr hf
        have b2 := right_end hr i
        have b3 := timeOK_iff.1 ha
        have b4 := timeOK_iff.1 hz
        have b5 := sumTo_bd (share_bd (p := p) hr ha hz) i
        have b6 := share_bd (p := p) hr ha hz i
        have b7 := right_len hr
        have b8 : (i : Int) * 1125899906842624 ≤ 4000 * 1125899906842624 := Int.mul_le_mul_of_nonneg_right (by omega) (by omega)
        rw [i64_id (x := mnI (endT t i) z - mxI f.time a) (by rw [mnI_min, mxI_max]; omega) (by rw [mnI_min, mxI_max]; omega), ← hsh, i64_id (by omega) (by omega)]; rfl
      refine wk_to (wk_kp [] [0] (by simp) (by simp) rfl) ?_
      simp only [go_sem, Nat.reduceLT, Nat.reduceEqDiff, Nat.reduceAdd, Nat.reduceSub, Nat.reduceMul, Nat.reduceLeDiff, reduceIte, reduceCtorEq, Int.lt_irrefl, Nat.reduceMod, Nat.reduceBEq, eq_self, false_and, and_false, pullF_hp hW, hrB, List.cons_append, List.nil_append, List.map_cons, List.map_nil,  hcl7]
      rw [hsum]
    · refine ⟨trivial, ?_⟩
      have hsh : share p t a z i = 0 := by simp [share, hf, h]
      have hsum : sumTo (share p t a z) (i + 1) = sumTo (share p t a z) i := by rw [sumTo, hsh]; omega
      refine wk_to (wk_kp [] [0] (by simp) (by simp) rfl) ?_
      simp only [go_sem, Nat.reduceLT, Nat.reduceEqDiff, Nat.reduceAdd, Nat.reduceSub, Nat.reduceMul, Nat.reduceLeDiff, reduceIte, reduceCtorEq, Int.lt_irrefl, Nat.reduceMod, Nat.reduceBEq, eq_self, false_and, and_false, pullF_hp hW, hrB, List.cons_append, List.nil_append, List.map_cons, List.map_nil,  hcl7, hsum]
  · intro _ rE
    simp only [Blk, Th]
    refine wpA_K fun K hK => ?_
    simp only [go_sem, Nat.reduceLT, Nat.reduceEqDiff, Nat.reduceAdd, Nat.reduceSub, Nat.reduceMul, Nat.reduceLeDiff, reduceIte, reduceCtorEq, Int.lt_irrefl, Nat.reduceMod, Nat.reduceBEq, eq_self, false_and, and_false, List.cons_append, List.nil_append, hcl]
    refine hK _ ?_; clear hK K
    repeat' (first
      | refine wpA_seq ?_
      | refine wpA_skip ?_
      | (refine wpA_exit ?_)
      | (refine hK _ _ ?_; clear hK K)
      | (refine hK _ _ rfl ?_; clear hK K)
      | (refine wpA_reg hT hE fun K hK => ?_; simp only [go_sem, Nat.reduceLT, Nat.reduceEqDiff, Nat.reduceAdd, Nat.reduceSub, Nat.reduceMul, Nat.reduceLeDiff, reduceIte, reduceCtorEq, Int.lt_irrefl, Nat.reduceMod, Nat.reduceBEq, eq_self, false_and, and_false])
      | (refine wpA_drw hT hE hmix (by kernel_rfl) fun K hK => ?_; simp only [go_sem, Nat.reduceLT, Nat.reduceEqDiff, Nat.reduceAdd, Nat.reduceSub, Nat.reduceMul, Nat.reduceLeDiff, reduceIte, reduceCtorEq, Int.lt_irrefl, Nat.reduceMod, Nat.reduceBEq, eq_self, false_and, and_false])
      | (refine gd_t (fun h => ?_) (fun h => ?_) <;> (try simp only [h, go_sem, Nat.reduceLT, Nat.reduceEqDiff, Nat.reduceAdd, Nat.reduceSub, Nat.reduceMul, Nat.reduceLeDiff, reduceIte, reduceCtorEq, Int.lt_irrefl, Nat.reduceMod, Nat.reduceBEq, eq_self, false_and, and_false]))
      | (refine gd_f (fun h => ?_) (fun h => ?_) <;> (try simp only [h, go_sem, Nat.reduceLT, Nat.reduceEqDiff, Nat.reduceAdd, Nat.reduceSub, Nat.reduceMul, Nat.reduceLeDiff, reduceIte, reduceCtorEq, Int.lt_irrefl, Nat.reduceMod, Nat.reduceBEq, eq_self, false_and, and_false]))
      | refine wpA_block ?_
      | (refine wpA_cond rfl (fun h => ?_) (fun h => ?_) <;> (try (cases h; done)))
      | (refine wpA_ret (fin_pure (.inl rfl) rfl (by simp only [go_sem, Nat.reduceLT, Nat.reduceEqDiff, Nat.reduceAdd, Nat.reduceSub, Nat.reduceMul, Nat.reduceLeDiff, reduceIte, reduceCtorEq, Int.lt_irrefl, Nat.reduceMod, Nat.reduceBEq, eq_self, false_and, and_false]; rfl) ?_ (hW _)); (try simp only [go_sem, Nat.reduceLT, Nat.reduceEqDiff, Nat.reduceAdd, Nat.reduceSub, Nat.reduceMul, Nat.reduceLeDiff, reduceIte, reduceCtorEq, Int.lt_irrefl, Nat.reduceMod, Nat.reduceBEq, eq_self, false_and, and_false]))
      | (refine wpA_ret (fin_pureM (.inl rfl) (by simp only [go_sem, Nat.reduceLT, Nat.reduceEqDiff, Nat.reduceAdd, Nat.reduceSub, Nat.reduceMul, Nat.reduceLeDiff, reduceIte, reduceCtorEq, Int.lt_irrefl, Nat.reduceMod, Nat.reduceBEq, eq_self, false_and, and_false]) (by simp only [go_sem, Nat.reduceLT, Nat.reduceEqDiff, Nat.reduceAdd, Nat.reduceSub, Nat.reduceMul, Nat.reduceLeDiff, reduceIte, reduceCtorEq, Int.lt_irrefl, Nat.reduceMod, Nat.reduceBEq, eq_self, false_and, and_false]; rfl) ?_ (hW _)); (try simp only [go_sem, Nat.reduceLT, Nat.reduceEqDiff, Nat.reduceAdd, Nat.reduceSub, Nat.reduceMul, Nat.reduceLeDiff, reduceIte, reduceCtorEq, Int.lt_irrefl, Nat.reduceMod, Nat.reduceBEq, eq_self, false_and, and_false]))
      | fail)
    rw [hlong]

theorem Ran_spec (t : Trace) (v a z : Int) : PureE Try.prog 19 [aTrace t, .v (.int .i64 v), .v (.int .i64 a), .v (.int .i64 z)] [] (aII (longF (fun p => p.vcpu == v) t a z)) := by
  intro F b hn
  refine callE_of hT (fn := Try.f19) rfl rfl rfl (by simp [fnt]) (by simp) fun htop hW => ?_
  repeat' (first
    | refine wpA_seq ?_
    | refine wpA_skip ?_
    | (refine wpA_exit ?_)
    | (refine hK _ _ ?_; clear hK K)
    | (refine hK _ _ rfl ?_; clear hK K)
    | (refine wpA_reg hT hE fun K hK => ?_; simp only [go_sem, Nat.reduceLT, Nat.reduceEqDiff, Nat.reduceAdd, Nat.reduceSub, Nat.reduceMul, Nat.reduceLeDiff, reduceIte, reduceCtorEq, Int.lt_irrefl, Nat.reduceMod, Nat.reduceBEq, eq_self, false_and, and_false, Array.size_empty])
    | (refine wpA_drw hT hE hmix (by kernel_rfl) fun K hK => ?_; simp only [go_sem, Nat.reduceLT, Nat.reduceEqDiff, Nat.reduceAdd, Nat.reduceSub, Nat.reduceMul, Nat.reduceLeDiff, reduceIte, reduceCtorEq, Int.lt_irrefl, Nat.reduceMod, Nat.reduceBEq, eq_self, false_and, and_false, Array.size_empty])
    | (refine gd_t (fun h => ?_) (fun h => ?_) <;> (try simp only [h, go_sem, Nat.reduceLT, Nat.reduceEqDiff, Nat.reduceAdd, Nat.reduceSub, Nat.reduceMul, Nat.reduceLeDiff, reduceIte, reduceCtorEq, Int.lt_irrefl, Nat.reduceMod, Nat.reduceBEq, eq_self, false_and, and_false, Array.size_empty]))
    | (refine gd_f (fun h => ?_) (fun h => ?_) <;> (try simp only [h, go_sem, Nat.reduceLT, Nat.reduceEqDiff, Nat.reduceAdd, Nat.reduceSub, Nat.reduceMul, Nat.reduceLeDiff, reduceIte, reduceCtorEq, Int.lt_irrefl, Nat.reduceMod, Nat.reduceBEq, eq_self, false_and, and_false, Array.size_empty]))
    | refine wpA_block ?_
    | (refine wpA_cond rfl (fun h => ?_) (fun h => ?_) <;> (try (cases h; done)))
    | (refine wpA_ret (fin_pure (.inl rfl) rfl (by simp only [go_sem, Nat.reduceLT, Nat.reduceEqDiff, Nat.reduceAdd, Nat.reduceSub, Nat.reduceMul, Nat.reduceLeDiff, reduceIte, reduceCtorEq, Int.lt_irrefl, Nat.reduceMod, Nat.reduceBEq, eq_self, false_and, and_false, Array.size_empty]; rfl) ?_ (hW _)); (try simp only [go_sem, Nat.reduceLT, Nat.reduceEqDiff, Nat.reduceAdd, Nat.reduceSub, Nat.reduceMul, Nat.reduceLeDiff, reduceIte, reduceCtorEq, Int.lt_irrefl, Nat.reduceMod, Nat.reduceBEq, eq_self, false_and, and_false, Array.size_empty]))
    | (refine wpA_ret (fin_pureM (.inl rfl) (by simp only [go_sem, Nat.reduceLT, Nat.reduceEqDiff, Nat.reduceAdd, Nat.reduceSub, Nat.reduceMul, Nat.reduceLeDiff, reduceIte, reduceCtorEq, Int.lt_irrefl, Nat.reduceMod, Nat.reduceBEq, eq_self, false_and, and_false]) (by simp only [go_sem, Nat.reduceLT, Nat.reduceEqDiff, Nat.reduceAdd, Nat.reduceSub, Nat.reduceMul, Nat.reduceLeDiff, reduceIte, reduceCtorEq, Int.lt_irrefl, Nat.reduceMod, Nat.reduceBEq, eq_self, false_and, and_false, Array.size_empty]; rfl) ?_ (hW _)); (try simp only [go_sem, Nat.reduceLT, Nat.reduceEqDiff, Nat.reduceAdd, Nat.reduceSub, Nat.reduceMul, Nat.reduceLeDiff, reduceIte, reduceCtorEq, Int.lt_irrefl, Nat.reduceMod, Nat.reduceBEq, eq_self, false_and, and_false, Array.size_empty]))
    | (refine ⟨_, [], [], PureE.call (long_spec t a z 38 [.ptr (b + 1) 0] _ _ (RanC_spec (b + 1) v)) (by first | (simp; done) | (simp [hpF_add, hpF_lo]; done) | exact need_hp htop hn | exact need_hp2 htop hn), ?_⟩; (try simp only [go_sem, Nat.reduceLT, Nat.reduceEqDiff, Nat.reduceAdd, Nat.reduceSub, Nat.reduceMul, Nat.reduceLeDiff, reduceIte, reduceCtorEq, Int.lt_irrefl, Nat.reduceMod, Nat.reduceBEq, eq_self, false_and, and_false, Array.size_empty]))
    | (refine ⟨_, _, [], PureE.toS (long_spec t a z 38 [.ptr (b + 1) 0] _ _ (RanC_spec (b + 1) v)), by first | (simp; done) | (simp [hpF_add, hpF_lo]; done) | exact need_hp htop hn | exact need_hp2 htop hn, by simp, ?_⟩; (try simp only [go_sem, Nat.reduceLT, Nat.reduceEqDiff, Nat.reduceAdd, Nat.reduceSub, Nat.reduceMul, Nat.reduceLeDiff, reduceIte, reduceCtorEq, Int.lt_irrefl, Nat.reduceMod, Nat.reduceBEq, eq_self, false_and, and_false, Array.size_empty]))
    | fail)
theorem Busy_spec (t : Trace) (v a z : Int) : PureE Try.prog 22 [aTrace t, .v (.int .i64 v), .v (.int .i64 a), .v (.int .i64 z)] [] (aII (longF (fun p => p.cpu == v) t a z)) := by
  intro F b hn
  refine callE_of hT (fn := Try.f22) rfl rfl rfl (by simp [fnt]) (by simp) fun htop hW => ?_
  repeat' (first
    | refine wpA_seq ?_
    | refine wpA_skip ?_
    | (refine wpA_exit ?_)
    | (refine hK _ _ ?_; clear hK K)
    | (refine hK _ _ rfl ?_; clear hK K)
    | (refine wpA_reg hT hE fun K hK => ?_; simp only [go_sem, Nat.reduceLT, Nat.reduceEqDiff, Nat.reduceAdd, Nat.reduceSub, Nat.reduceMul, Nat.reduceLeDiff, reduceIte, reduceCtorEq, Int.lt_irrefl, Nat.reduceMod, Nat.reduceBEq, eq_self, false_and, and_false, Array.size_empty])
    | (refine wpA_drw hT hE hmix (by kernel_rfl) fun K hK => ?_; simp only [go_sem, Nat.reduceLT, Nat.reduceEqDiff, Nat.reduceAdd, Nat.reduceSub, Nat.reduceMul, Nat.reduceLeDiff, reduceIte, reduceCtorEq, Int.lt_irrefl, Nat.reduceMod, Nat.reduceBEq, eq_self, false_and, and_false, Array.size_empty])
    | (refine gd_t (fun h => ?_) (fun h => ?_) <;> (try simp only [h, go_sem, Nat.reduceLT, Nat.reduceEqDiff, Nat.reduceAdd, Nat.reduceSub, Nat.reduceMul, Nat.reduceLeDiff, reduceIte, reduceCtorEq, Int.lt_irrefl, Nat.reduceMod, Nat.reduceBEq, eq_self, false_and, and_false, Array.size_empty]))
    | (refine gd_f (fun h => ?_) (fun h => ?_) <;> (try simp only [h, go_sem, Nat.reduceLT, Nat.reduceEqDiff, Nat.reduceAdd, Nat.reduceSub, Nat.reduceMul, Nat.reduceLeDiff, reduceIte, reduceCtorEq, Int.lt_irrefl, Nat.reduceMod, Nat.reduceBEq, eq_self, false_and, and_false, Array.size_empty]))
    | refine wpA_block ?_
    | (refine wpA_cond rfl (fun h => ?_) (fun h => ?_) <;> (try (cases h; done)))
    | (refine wpA_ret (fin_pure (.inl rfl) rfl (by simp only [go_sem, Nat.reduceLT, Nat.reduceEqDiff, Nat.reduceAdd, Nat.reduceSub, Nat.reduceMul, Nat.reduceLeDiff, reduceIte, reduceCtorEq, Int.lt_irrefl, Nat.reduceMod, Nat.reduceBEq, eq_self, false_and, and_false, Array.size_empty]; rfl) ?_ (hW _)); (try simp only [go_sem, Nat.reduceLT, Nat.reduceEqDiff, Nat.reduceAdd, Nat.reduceSub, Nat.reduceMul, Nat.reduceLeDiff, reduceIte, reduceCtorEq, Int.lt_irrefl, Nat.reduceMod, Nat.reduceBEq, eq_self, false_and, and_false, Array.size_empty]))
    | (refine wpA_ret (fin_pureM (.inl rfl) (by simp only [go_sem, Nat.reduceLT, Nat.reduceEqDiff, Nat.reduceAdd, Nat.reduceSub, Nat.reduceMul, Nat.reduceLeDiff, reduceIte, reduceCtorEq, Int.lt_irrefl, Nat.reduceMod, Nat.reduceBEq, eq_self, false_and, and_false]) (by simp only [go_sem, Nat.reduceLT, Nat.reduceEqDiff, Nat.reduceAdd, Nat.reduceSub, Nat.reduceMul, Nat.reduceLeDiff, reduceIte, reduceCtorEq, Int.lt_irrefl, Nat.reduceMod, Nat.reduceBEq, eq_self, false_and, and_false, Array.size_empty]; rfl) ?_ (hW _)); (try simp only [go_sem, Nat.reduceLT, Nat.reduceEqDiff, Nat.reduceAdd, Nat.reduceSub, Nat.reduceMul, Nat.reduceLeDiff, reduceIte, reduceCtorEq, Int.lt_irrefl, Nat.reduceMod, Nat.reduceBEq, eq_self, false_and, and_false, Array.size_empty]))
    | (refine ⟨_, [], [], PureE.call (long_spec t a z 40 [.ptr (b + 1) 0] _ _ (BusyC_spec (b + 1) v)) (by first | (simp; done) | (simp [hpF_add, hpF_lo]; done) | exact need_hp htop hn | exact need_hp2 htop hn), ?_⟩; (try simp only [go_sem, Nat.reduceLT, Nat.reduceEqDiff, Nat.reduceAdd, Nat.reduceSub, Nat.reduceMul, Nat.reduceLeDiff, reduceIte, reduceCtorEq, Int.lt_irrefl, Nat.reduceMod, Nat.reduceBEq, eq_self, false_and, and_false, Array.size_empty]))
    | (refine ⟨_, _, [], PureE.toS (long_spec t a z 40 [.ptr (b + 1) 0] _ _ (BusyC_spec (b + 1) v)), by first | (simp; done) | (simp [hpF_add, hpF_lo]; done) | exact need_hp htop hn | exact need_hp2 htop hn, by simp, ?_⟩; (try simp only [go_sem, Nat.reduceLT, Nat.reduceEqDiff, Nat.reduceAdd, Nat.reduceSub, Nat.reduceMul, Nat.reduceLeDiff, reduceIte, reduceCtorEq, Int.lt_irrefl, Nat.reduceMod, Nat.reduceBEq, eq_self, false_and, and_false, Array.size_empty]))
    | fail)
end Go.Proofs.Ythlmfkeeneeaoaa

namespace Go.Proofs.Ythlmfkeeneeaoaa
open Go Go.Av

/-- Does a frame hold at a time? -/
def holdsAt (t : Trace) (now : Int) (i : Nat) : Bool := match t.frames[i]? with
  | some f => decide (now ≥ f.time) && decide (now < endT t i)
  | none => false
def putsAt (t : Trace) (i : Nat) : List Put := match t.frames[i]? with | some f => f.puts | none => []
def atF (t : Trace) (now : Int) : List Put × Bool :=
  if right t = true then (match firstI (holdsAt t now) t.frames.length with | some i => (putsAt t i, true) | none => ([], false)) else ([], false)
def aPB (x : List Put × Bool) : AVal := .tup [.sl (x.1.map aPut), .v (.bool x.2)]
attribute [go_sem] aPB

theorem putOK_cpu {pre : List Put} {p : Put} (h : putOK pre p = true) : 0 ≤ p.cpu ∧ p.cpu ≤ 7 ∧ (∀ q, pre.getLast? = some q → q.cpu < p.cpu) ∧ 1 ≤ p.vcpu ∧ p.vcpu ≤ 16 ∧ ∀ q ∈ pre, q.vcpu ≠ p.vcpu := by
  simp [putOK] at h
  refine ⟨h.2.2.2.1, by omega, fun q hq => ?_, by omega, by omega, fun q hq => h.2.2.1 q hq⟩
  rw [hq] at h
  simpa using h.2.2.2.2.2
theorem picF_cpu : ∀ (l pre : List Put) (c : Int), picF pre l = true → c ≤ 7 → -1 ≤ c → (∀ q, pre.getLast? = some q → q.cpu = c) → (pre.getLast? = none → c = -1) → (l.length : Int) ≤ 7 - c
  | [], pre, c, _, h7, _, _, _ => by simp; omega
  | p :: r, pre, c, h, h7, h0, h1, h2 => by
    rw [picF_app, Bool.and_eq_true] at h
    have hp := putOK_cpu h.1
    have hc : c + 1 ≤ p.cpu := by
      cases hl : pre.getLast? with
      | none => have := h2 hl; omega
      | some q => have := h1 q hl; have := hp.2.2.1 q hl; omega
    have := picF_cpu r (pre ++ [p]) p.cpu h.2 hp.2.1 (by omega) (fun q hq => by simp at hq; rw [← hq]) (fun hq => by simp at hq)
    simp only [List.length_cons]; omega
theorem pic_len8 {l : List Put} (h : picF [] l = true) : l.length ≤ 8 := by
  have := picF_cpu l [] (-1) h (by omega) (by omega) (by simp) (by simp)
  omega
theorem pic_len {l : List Put} (h : picF [] l = true) : l.length ≤ 1000000 := by have := pic_len8 h; omega

theorem At_spec (t : Trace) (now : Int) : PureE Try.prog 23 [aTrace t, .v (.int .i64 now)] [] (aPB (atF t now)) := by
  intro F b hn
  refine callE_of hT (fn := Try.f23) rfl rfl rfl (by simp [fnt]) (by simp) fun htop hW => ?_
  have herr : (errT (right t) != 0) = !right t := by cases right t <;> rfl
  repeat' (first
    | (refine ⟨_, _, _, all_spec t _ _, ?_⟩; simp only [Nat.add_assoc, go_sem, Nat.reduceLT, Nat.reduceEqDiff, Nat.reduceAdd, Nat.reduceSub, Nat.reduceMul, Nat.reduceLeDiff, reduceIte, reduceCtorEq, Int.lt_irrefl, Nat.reduceMod, Nat.reduceBEq, eq_self, false_and, and_false])
    | refine wpA_seq ?_
    | refine wpA_skip ?_
    | (refine wpA_exit ?_)
    | (refine hK _ _ ?_; clear hK K)
    | (refine hK _ _ rfl ?_; clear hK K)
    | (refine wpA_reg hT hE fun K hK => ?_; simp only [go_sem, Nat.reduceLT, Nat.reduceEqDiff, Nat.reduceAdd, Nat.reduceSub, Nat.reduceMul, Nat.reduceLeDiff, reduceIte, reduceCtorEq, Int.lt_irrefl, Nat.reduceMod, Nat.reduceBEq, eq_self, false_and, and_false, herr])
    | (refine wpA_drw hT hE hmix (by kernel_rfl) fun K hK => ?_; simp only [go_sem, Nat.reduceLT, Nat.reduceEqDiff, Nat.reduceAdd, Nat.reduceSub, Nat.reduceMul, Nat.reduceLeDiff, reduceIte, reduceCtorEq, Int.lt_irrefl, Nat.reduceMod, Nat.reduceBEq, eq_self, false_and, and_false, herr])
    | (refine gd_t (fun h => ?_) (fun h => ?_) <;> (try simp only [h, go_sem, Nat.reduceLT, Nat.reduceEqDiff, Nat.reduceAdd, Nat.reduceSub, Nat.reduceMul, Nat.reduceLeDiff, reduceIte, reduceCtorEq, Int.lt_irrefl, Nat.reduceMod, Nat.reduceBEq, eq_self, false_and, and_false, herr]))
    | (refine gd_f (fun h => ?_) (fun h => ?_) <;> (try simp only [h, go_sem, Nat.reduceLT, Nat.reduceEqDiff, Nat.reduceAdd, Nat.reduceSub, Nat.reduceMul, Nat.reduceLeDiff, reduceIte, reduceCtorEq, Int.lt_irrefl, Nat.reduceMod, Nat.reduceBEq, eq_self, false_and, and_false, herr]))
    | refine wpA_block ?_
    | (refine wpA_cond rfl (fun h => ?_) (fun h => ?_) <;> (try (cases h; done)))
    | (refine wpA_ret (fin_pure (.inl rfl) rfl (by simp only [go_sem, Nat.reduceLT, Nat.reduceEqDiff, Nat.reduceAdd, Nat.reduceSub, Nat.reduceMul, Nat.reduceLeDiff, reduceIte, reduceCtorEq, Int.lt_irrefl, Nat.reduceMod, Nat.reduceBEq, eq_self, false_and, and_false, herr]; rfl) ?_ (hW _)); (try simp only [go_sem, Nat.reduceLT, Nat.reduceEqDiff, Nat.reduceAdd, Nat.reduceSub, Nat.reduceMul, Nat.reduceLeDiff, reduceIte, reduceCtorEq, Int.lt_irrefl, Nat.reduceMod, Nat.reduceBEq, eq_self, false_and, and_false, herr]))
    | (refine wpA_ret (fin_pureM (.inl rfl) (by simp only [go_sem, Nat.reduceLT, Nat.reduceEqDiff, Nat.reduceAdd, Nat.reduceSub, Nat.reduceMul, Nat.reduceLeDiff, reduceIte, reduceCtorEq, Int.lt_irrefl, Nat.reduceMod, Nat.reduceBEq, eq_self, false_and, and_false]) (by simp only [go_sem, Nat.reduceLT, Nat.reduceEqDiff, Nat.reduceAdd, Nat.reduceSub, Nat.reduceMul, Nat.reduceLeDiff, reduceIte, reduceCtorEq, Int.lt_irrefl, Nat.reduceMod, Nat.reduceBEq, eq_self, false_and, and_false, herr]; rfl) ?_ (hW _)); (try simp only [go_sem, Nat.reduceLT, Nat.reduceEqDiff, Nat.reduceAdd, Nat.reduceSub, Nat.reduceMul, Nat.reduceLeDiff, reduceIte, reduceCtorEq, Int.lt_irrefl, Nat.reduceMod, Nat.reduceBEq, eq_self, false_and, and_false, herr]))
    | (refine ⟨_, [], [], PureE.call (Check_spec t) (by first | (simp; done) | (simp [hpF_add, hpF_lo]; done) | exact need_hp htop hn | exact need_hp2 htop hn), ?_⟩; (try simp only [go_sem, Nat.reduceLT, Nat.reduceEqDiff, Nat.reduceAdd, Nat.reduceSub, Nat.reduceMul, Nat.reduceLeDiff, reduceIte, reduceCtorEq, Int.lt_irrefl, Nat.reduceMod, Nat.reduceBEq, eq_self, false_and, and_false, herr]))
    | (refine ⟨_, _, [], PureE.toS (Check_spec t), by first | (simp; done) | (simp [hpF_add, hpF_lo]; done) | exact need_hp htop hn | exact need_hp2 htop hn, by simp, ?_⟩; (try simp only [go_sem, Nat.reduceLT, Nat.reduceEqDiff, Nat.reduceAdd, Nat.reduceSub, Nat.reduceMul, Nat.reduceLeDiff, reduceIte, reduceCtorEq, Int.lt_irrefl, Nat.reduceMod, Nat.reduceBEq, eq_self, false_and, and_false, herr]))
    | fail)
  · simp_all [atF]
  have hr : right t = true := by simpa using h
  refine wpA_kp [3, 4, 5, 12] [1, 2, 3, 4] (by simp) (by simp) rfl fun K hK => ?_
  try simp only [go_sem, Nat.reduceLT, Nat.reduceEqDiff, Nat.reduceAdd, Nat.reduceSub, Nat.reduceMul, Nat.reduceLeDiff, reduceIte, reduceCtorEq, Int.lt_irrefl, Nat.reduceMod, Nat.reduceBEq, eq_self, false_and, and_false, hW _]
  refine hK _ ?_; clear hK K
  refine wpA_rgF (gf := 48) (caps := [.ptr (b + 3) 0]) 6 rfl t.frames.length (ysT t)
    (fun i => [.blk 2 [.v (.int .i64 now)], .blk 25 [.v (.slice none 0 0)], .blk 4 [.v (.bool false)], .blk 24 [.sl (t.frames.map aFrame), .v (.int .i64 t.fin)]]) (fun _ => .dead) (fun i => ∀ j, j < i → holdsAt t now j = false) (by simp) rfl
    (by simp only [go_sem, Nat.reduceLT, Nat.reduceEqDiff, Nat.reduceAdd, Nat.reduceSub, Nat.reduceMul, Nat.reduceLeDiff, reduceIte, reduceCtorEq, Int.lt_irrefl, Nat.reduceMod, Nat.reduceBEq, eq_self, false_and, and_false]) (fun _ => rfl) (by simp [fnt]) ?_ (fun _ _ => wk_dead) (fun rD rR X => all1_iter t (b + 3) _ _ _ _ X (fun i => by simp only [List.cons_append, List.nil_append, go_sem, Nat.reduceLT, Nat.reduceEqDiff, Nat.reduceAdd, Nat.reduceSub, Nat.reduceMul, Nat.reduceLeDiff, reduceIte, reduceCtorEq, Int.lt_irrefl, Nat.reduceMod, Nat.reduceBEq, eq_self, false_and, and_false]) (fun i => topF_hp (by simp))) ?_ ?_
  · intro i hi
    obtain ⟨f, hf, _, _⟩ := get_of_lt hi
    rw [ysT_eq hf]
    refine ⟨rfl, by simp only [go_sem, Nat.reduceLT, Nat.reduceEqDiff, Nat.reduceAdd, Nat.reduceSub, Nat.reduceMul, Nat.reduceLeDiff, reduceIte, reduceCtorEq, Int.lt_irrefl, Nat.reduceMod, Nat.reduceBEq, eq_self, false_and, and_false]⟩
  · intro i hi
    obtain ⟨f, hf, _, _⟩ := get_of_lt hi
    rw [ysT_eq hf]
    intro hI rR
    have hlen := pic_len (right_get hr hf).2.2.2
    refine wpA_K fun K hK => ?_
    simp only [go_sem, Nat.reduceLT, Nat.reduceEqDiff, Nat.reduceAdd, Nat.reduceSub, Nat.reduceMul, Nat.reduceLeDiff, reduceIte, reduceCtorEq, Int.lt_irrefl, Nat.reduceMod, Nat.reduceBEq, eq_self, false_and, and_false, List.cons_append, List.nil_append]
    refine hK _ ?_; clear hK K
    repeat' (first
      | refine wpA_seq ?_
      | refine wpA_skip ?_
      | (refine wpA_exit ?_)
      | (refine hK _ _ ?_; clear hK K)
      | (refine hK _ _ rfl ?_; clear hK K)
      | (refine wpA_reg hT hE fun K hK => ?_; simp only [go_sem, Nat.reduceLT, Nat.reduceEqDiff, Nat.reduceAdd, Nat.reduceSub, Nat.reduceMul, Nat.reduceLeDiff, reduceIte, reduceCtorEq, Int.lt_irrefl, Nat.reduceMod, Nat.reduceBEq, eq_self, false_and, and_false])
      | (refine wpA_drw hT hE hmix (by kernel_rfl) fun K hK => ?_; simp only [go_sem, Nat.reduceLT, Nat.reduceEqDiff, Nat.reduceAdd, Nat.reduceSub, Nat.reduceMul, Nat.reduceLeDiff, reduceIte, reduceCtorEq, Int.lt_irrefl, Nat.reduceMod, Nat.reduceBEq, eq_self, false_and, and_false])
      | (refine gd_t (fun h => ?_) (fun h => ?_) <;> (try simp only [h, go_sem, Nat.reduceLT, Nat.reduceEqDiff, Nat.reduceAdd, Nat.reduceSub, Nat.reduceMul, Nat.reduceLeDiff, reduceIte, reduceCtorEq, Int.lt_irrefl, Nat.reduceMod, Nat.reduceBEq, eq_self, false_and, and_false]))
      | (refine gd_f (fun h => ?_) (fun h => ?_) <;> (try simp only [h, go_sem, Nat.reduceLT, Nat.reduceEqDiff, Nat.reduceAdd, Nat.reduceSub, Nat.reduceMul, Nat.reduceLeDiff, reduceIte, reduceCtorEq, Int.lt_irrefl, Nat.reduceMod, Nat.reduceBEq, eq_self, false_and, and_false]))
      | refine wpA_block ?_
      | (refine wpA_cond rfl (fun h => ?_) (fun h => ?_) <;> (try (cases h; done)))
      | (refine wpA_ret (fin_pure (.inl rfl) rfl (by simp only [go_sem, Nat.reduceLT, Nat.reduceEqDiff, Nat.reduceAdd, Nat.reduceSub, Nat.reduceMul, Nat.reduceLeDiff, reduceIte, reduceCtorEq, Int.lt_irrefl, Nat.reduceMod, Nat.reduceBEq, eq_self, false_and, and_false]; rfl) ?_ (hW _)); (try simp only [go_sem, Nat.reduceLT, Nat.reduceEqDiff, Nat.reduceAdd, Nat.reduceSub, Nat.reduceMul, Nat.reduceLeDiff, reduceIte, reduceCtorEq, Int.lt_irrefl, Nat.reduceMod, Nat.reduceBEq, eq_self, false_and, and_false]))
      | (refine wpA_ret (fin_pureM (.inl rfl) (by simp only [go_sem, Nat.reduceLT, Nat.reduceEqDiff, Nat.reduceAdd, Nat.reduceSub, Nat.reduceMul, Nat.reduceLeDiff, reduceIte, reduceCtorEq, Int.lt_irrefl, Nat.reduceMod, Nat.reduceBEq, eq_self, false_and, and_false]) (by simp only [go_sem, Nat.reduceLT, Nat.reduceEqDiff, Nat.reduceAdd, Nat.reduceSub, Nat.reduceMul, Nat.reduceLeDiff, reduceIte, reduceCtorEq, Int.lt_irrefl, Nat.reduceMod, Nat.reduceBEq, eq_self, false_and, and_false]; rfl) ?_ (hW _)); (try simp only [go_sem, Nat.reduceLT, Nat.reduceEqDiff, Nat.reduceAdd, Nat.reduceSub, Nat.reduceMul, Nat.reduceLeDiff, reduceIte, reduceCtorEq, Int.lt_irrefl, Nat.reduceMod, Nat.reduceBEq, eq_self, false_and, and_false]))
      | fail)
    refine ⟨rfl, rfl, rfl, fun rB hrB => ?_⟩
    refine wpA_K fun K hK => ?_
    simp only [go_sem, Nat.reduceLT, Nat.reduceEqDiff, Nat.reduceAdd, Nat.reduceSub, Nat.reduceMul, Nat.reduceLeDiff, reduceIte, reduceCtorEq, Int.lt_irrefl, Nat.reduceMod, Nat.reduceBEq, eq_self, false_and, and_false, List.cons_append, List.nil_append]
    refine hK _ ?_; clear hK K
    repeat' (first
      | refine wpA_seq ?_
      | refine wpA_skip ?_
      | (refine wpA_exit ?_)
      | (refine hK _ _ ?_; clear hK K)
      | (refine hK _ _ rfl ?_; clear hK K)
      | (refine wpA_reg hT hE fun K hK => ?_; simp only [go_sem, Nat.reduceLT, Nat.reduceEqDiff, Nat.reduceAdd, Nat.reduceSub, Nat.reduceMul, Nat.reduceLeDiff, reduceIte, reduceCtorEq, Int.lt_irrefl, Nat.reduceMod, Nat.reduceBEq, eq_self, false_and, and_false])
      | (refine wpA_drw hT hE hmix (by kernel_rfl) fun K hK => ?_; simp only [go_sem, Nat.reduceLT, Nat.reduceEqDiff, Nat.reduceAdd, Nat.reduceSub, Nat.reduceMul, Nat.reduceLeDiff, reduceIte, reduceCtorEq, Int.lt_irrefl, Nat.reduceMod, Nat.reduceBEq, eq_self, false_and, and_false])
      | (refine gd_t (fun h => ?_) (fun h => ?_) <;> (try simp only [h, go_sem, Nat.reduceLT, Nat.reduceEqDiff, Nat.reduceAdd, Nat.reduceSub, Nat.reduceMul, Nat.reduceLeDiff, reduceIte, reduceCtorEq, Int.lt_irrefl, Nat.reduceMod, Nat.reduceBEq, eq_self, false_and, and_false]))
      | (refine gd_f (fun h => ?_) (fun h => ?_) <;> (try simp only [h, go_sem, Nat.reduceLT, Nat.reduceEqDiff, Nat.reduceAdd, Nat.reduceSub, Nat.reduceMul, Nat.reduceLeDiff, reduceIte, reduceCtorEq, Int.lt_irrefl, Nat.reduceMod, Nat.reduceBEq, eq_self, false_and, and_false]))
      | refine wpA_block ?_
      | (refine wpA_cond rfl (fun h => ?_) (fun h => ?_) <;> (try (cases h; done)))
      | (refine wpA_ret (fin_pure (.inl rfl) rfl (by simp only [go_sem, Nat.reduceLT, Nat.reduceEqDiff, Nat.reduceAdd, Nat.reduceSub, Nat.reduceMul, Nat.reduceLeDiff, reduceIte, reduceCtorEq, Int.lt_irrefl, Nat.reduceMod, Nat.reduceBEq, eq_self, false_and, and_false]; rfl) ?_ (hW _)); (try simp only [go_sem, Nat.reduceLT, Nat.reduceEqDiff, Nat.reduceAdd, Nat.reduceSub, Nat.reduceMul, Nat.reduceLeDiff, reduceIte, reduceCtorEq, Int.lt_irrefl, Nat.reduceMod, Nat.reduceBEq, eq_self, false_and, and_false]))
      | (refine wpA_ret (fin_pureM (.inl rfl) (by simp only [go_sem, Nat.reduceLT, Nat.reduceEqDiff, Nat.reduceAdd, Nat.reduceSub, Nat.reduceMul, Nat.reduceLeDiff, reduceIte, reduceCtorEq, Int.lt_irrefl, Nat.reduceMod, Nat.reduceBEq, eq_self, false_and, and_false]) (by simp only [go_sem, Nat.reduceLT, Nat.reduceEqDiff, Nat.reduceAdd, Nat.reduceSub, Nat.reduceMul, Nat.reduceLeDiff, reduceIte, reduceCtorEq, Int.lt_irrefl, Nat.reduceMod, Nat.reduceBEq, eq_self, false_and, and_false]; rfl) ?_ (hW _)); (try simp only [go_sem, Nat.reduceLT, Nat.reduceEqDiff, Nat.reduceAdd, Nat.reduceSub, Nat.reduceMul, Nat.reduceLeDiff, reduceIte, reduceCtorEq, Int.lt_irrefl, Nat.reduceMod, Nat.reduceBEq, eq_self, false_and, and_false]))
      | (refine ⟨_, [], [], PureE.call (Clone_spec f.puts hlen) (by first | (simp; done) | (simp [hpF_add, hpF_lo]; done) | exact need_hp htop hn | exact need_hp2 htop hn), ?_⟩; (try simp only [go_sem, Nat.reduceLT, Nat.reduceEqDiff, Nat.reduceAdd, Nat.reduceSub, Nat.reduceMul, Nat.reduceLeDiff, reduceIte, reduceCtorEq, Int.lt_irrefl, Nat.reduceMod, Nat.reduceBEq, eq_self, false_and, and_false]))
      | (refine ⟨_, _, [], PureE.toS (Clone_spec f.puts hlen), by first | (simp; done) | (simp [hpF_add, hpF_lo]; done) | exact need_hp htop hn | exact need_hp2 htop hn, by simp, ?_⟩; (try simp only [go_sem, Nat.reduceLT, Nat.reduceEqDiff, Nat.reduceAdd, Nat.reduceSub, Nat.reduceMul, Nat.reduceLeDiff, reduceIte, reduceCtorEq, Int.lt_irrefl, Nat.reduceMod, Nat.reduceBEq, eq_self, false_and, and_false]))
      | fail)
    · have hh : holdsAt t now i = true := by simp_all [holdsAt]
      have hat : atF t now = (f.puts, true) := by rw [atF, if_pos hr, firstI_some hi hh hI]; simp [putsAt, hf]
      refine wpA_ret (RQM.ret [.blk 2 [.v (.int .i64 now)], .blk 25 [.sl (f.puts.map aPut)], .blk 4 [.v (.bool true)], .blk 24 [.sl (t.frames.map aFrame), .v (.int .i64 t.fin)]] .dead rfl ?_ fun rE => ?_)
      · refine wk_to (wk_kp [] [0] (by simp) (by simp) rfl) ?_
        simp only [go_sem, Nat.reduceLT, Nat.reduceEqDiff, Nat.reduceAdd, Nat.reduceSub, Nat.reduceMul, Nat.reduceLeDiff, reduceIte, reduceCtorEq, Int.lt_irrefl, Nat.reduceMod, Nat.reduceBEq, eq_self, false_and, and_false, pullF_hp hW, hrB, List.cons_append, List.nil_append, List.map_cons, List.map_nil]
      · refine wpA_K fun K hK => ?_
        simp only [go_sem, Nat.reduceLT, Nat.reduceEqDiff, Nat.reduceAdd, Nat.reduceSub, Nat.reduceMul, Nat.reduceLeDiff, reduceIte, reduceCtorEq, Int.lt_irrefl, Nat.reduceMod, Nat.reduceBEq, eq_self, false_and, and_false, List.cons_append, List.nil_append]
        refine hK _ ?_; clear hK K
        repeat' (first
          | refine wpA_seq ?_
          | refine wpA_skip ?_
          | (refine wpA_exit ?_)
          | (refine hK _ _ ?_; clear hK K)
          | (refine hK _ _ rfl ?_; clear hK K)
          | (refine wpA_reg hT hE fun K hK => ?_; simp only [go_sem, Nat.reduceLT, Nat.reduceEqDiff, Nat.reduceAdd, Nat.reduceSub, Nat.reduceMul, Nat.reduceLeDiff, reduceIte, reduceCtorEq, Int.lt_irrefl, Nat.reduceMod, Nat.reduceBEq, eq_self, false_and, and_false])
          | (refine wpA_drw hT hE hmix (by kernel_rfl) fun K hK => ?_; simp only [go_sem, Nat.reduceLT, Nat.reduceEqDiff, Nat.reduceAdd, Nat.reduceSub, Nat.reduceMul, Nat.reduceLeDiff, reduceIte, reduceCtorEq, Int.lt_irrefl, Nat.reduceMod, Nat.reduceBEq, eq_self, false_and, and_false])
          | (refine gd_t (fun h => ?_) (fun h => ?_) <;> (try simp only [h, go_sem, Nat.reduceLT, Nat.reduceEqDiff, Nat.reduceAdd, Nat.reduceSub, Nat.reduceMul, Nat.reduceLeDiff, reduceIte, reduceCtorEq, Int.lt_irrefl, Nat.reduceMod, Nat.reduceBEq, eq_self, false_and, and_false]))
          | (refine gd_f (fun h => ?_) (fun h => ?_) <;> (try simp only [h, go_sem, Nat.reduceLT, Nat.reduceEqDiff, Nat.reduceAdd, Nat.reduceSub, Nat.reduceMul, Nat.reduceLeDiff, reduceIte, reduceCtorEq, Int.lt_irrefl, Nat.reduceMod, Nat.reduceBEq, eq_self, false_and, and_false]))
          | refine wpA_block ?_
          | (refine wpA_cond rfl (fun h => ?_) (fun h => ?_) <;> (try (cases h; done)))
          | (refine wpA_ret (fin_pure (.inl rfl) rfl (by simp only [go_sem, Nat.reduceLT, Nat.reduceEqDiff, Nat.reduceAdd, Nat.reduceSub, Nat.reduceMul, Nat.reduceLeDiff, reduceIte, reduceCtorEq, Int.lt_irrefl, Nat.reduceMod, Nat.reduceBEq, eq_self, false_and, and_false]; rfl) ?_ (hW _)); (try simp only [go_sem, Nat.reduceLT, Nat.reduceEqDiff, Nat.reduceAdd, Nat.reduceSub, Nat.reduceMul, Nat.reduceLeDiff, reduceIte, reduceCtorEq, Int.lt_irrefl, Nat.reduceMod, Nat.reduceBEq, eq_self, false_and, and_false]))
          | (refine wpA_ret (fin_pureM (.inl rfl) (by simp only [go_sem, Nat.reduceLT, Nat.reduceEqDiff, Nat.reduceAdd, Nat.reduceSub, Nat.reduceMul, Nat.reduceLeDiff, reduceIte, reduceCtorEq, Int.lt_irrefl, Nat.reduceMod, Nat.reduceBEq, eq_self, false_and, and_false]) (by simp only [go_sem, Nat.reduceLT, Nat.reduceEqDiff, Nat.reduceAdd, Nat.reduceSub, Nat.reduceMul, Nat.reduceLeDiff, reduceIte, reduceCtorEq, Int.lt_irrefl, Nat.reduceMod, Nat.reduceBEq, eq_self, false_and, and_false]; rfl) ?_ (hW _)); (try simp only [go_sem, Nat.reduceLT, Nat.reduceEqDiff, Nat.reduceAdd, Nat.reduceSub, Nat.reduceMul, Nat.reduceLeDiff, reduceIte, reduceCtorEq, Int.lt_irrefl, Nat.reduceMod, Nat.reduceBEq, eq_self, false_and, and_false]))
          | fail)
        rw [hat]
    · refine ⟨below_succ hI (by simp [holdsAt, hf, h]), ?_⟩
      refine wk_to (wk_kp [] [0] (by simp) (by simp) rfl) ?_
      simp only [go_sem, Nat.reduceLT, Nat.reduceEqDiff, Nat.reduceAdd, Nat.reduceSub, Nat.reduceMul, Nat.reduceLeDiff, reduceIte, reduceCtorEq, Int.lt_irrefl, Nat.reduceMod, Nat.reduceBEq, eq_self, false_and, and_false, pullF_hp hW, hrB, List.cons_append, List.nil_append, List.map_cons, List.map_nil]
    · rename_i h0
      refine ⟨below_succ hI (by simp only [holdsAt, hf, h0]; rfl), ?_⟩
      refine wk_to (wk_kp [] [0] (by simp) (by simp) rfl) ?_
      simp only [go_sem, Nat.reduceLT, Nat.reduceEqDiff, Nat.reduceAdd, Nat.reduceSub, Nat.reduceMul, Nat.reduceLeDiff, reduceIte, reduceCtorEq, Int.lt_irrefl, Nat.reduceMod, Nat.reduceBEq, eq_self, false_and, and_false, pullF_hp hW, hrB, List.cons_append, List.nil_append, List.map_cons, List.map_nil]
  · intro hI rE
    simp only [Blk, Th]
    refine wpA_K fun K hK => ?_
    simp only [go_sem, Nat.reduceLT, Nat.reduceEqDiff, Nat.reduceAdd, Nat.reduceSub, Nat.reduceMul, Nat.reduceLeDiff, reduceIte, reduceCtorEq, Int.lt_irrefl, Nat.reduceMod, Nat.reduceBEq, eq_self, false_and, and_false, List.cons_append, List.nil_append]
    refine hK _ ?_; clear hK K
    repeat' (first
      | refine wpA_seq ?_
      | refine wpA_skip ?_
      | (refine wpA_exit ?_)
      | (refine hK _ _ ?_; clear hK K)
      | (refine hK _ _ rfl ?_; clear hK K)
      | (refine wpA_reg hT hE fun K hK => ?_; simp only [go_sem, Nat.reduceLT, Nat.reduceEqDiff, Nat.reduceAdd, Nat.reduceSub, Nat.reduceMul, Nat.reduceLeDiff, reduceIte, reduceCtorEq, Int.lt_irrefl, Nat.reduceMod, Nat.reduceBEq, eq_self, false_and, and_false])
      | (refine wpA_drw hT hE hmix (by kernel_rfl) fun K hK => ?_; simp only [go_sem, Nat.reduceLT, Nat.reduceEqDiff, Nat.reduceAdd, Nat.reduceSub, Nat.reduceMul, Nat.reduceLeDiff, reduceIte, reduceCtorEq, Int.lt_irrefl, Nat.reduceMod, Nat.reduceBEq, eq_self, false_and, and_false])
      | (refine gd_t (fun h => ?_) (fun h => ?_) <;> (try simp only [h, go_sem, Nat.reduceLT, Nat.reduceEqDiff, Nat.reduceAdd, Nat.reduceSub, Nat.reduceMul, Nat.reduceLeDiff, reduceIte, reduceCtorEq, Int.lt_irrefl, Nat.reduceMod, Nat.reduceBEq, eq_self, false_and, and_false]))
      | (refine gd_f (fun h => ?_) (fun h => ?_) <;> (try simp only [h, go_sem, Nat.reduceLT, Nat.reduceEqDiff, Nat.reduceAdd, Nat.reduceSub, Nat.reduceMul, Nat.reduceLeDiff, reduceIte, reduceCtorEq, Int.lt_irrefl, Nat.reduceMod, Nat.reduceBEq, eq_self, false_and, and_false]))
      | refine wpA_block ?_
      | (refine wpA_cond rfl (fun h => ?_) (fun h => ?_) <;> (try (cases h; done)))
      | (refine wpA_ret (fin_pure (.inl rfl) rfl (by simp only [go_sem, Nat.reduceLT, Nat.reduceEqDiff, Nat.reduceAdd, Nat.reduceSub, Nat.reduceMul, Nat.reduceLeDiff, reduceIte, reduceCtorEq, Int.lt_irrefl, Nat.reduceMod, Nat.reduceBEq, eq_self, false_and, and_false]; rfl) ?_ (hW _)); (try simp only [go_sem, Nat.reduceLT, Nat.reduceEqDiff, Nat.reduceAdd, Nat.reduceSub, Nat.reduceMul, Nat.reduceLeDiff, reduceIte, reduceCtorEq, Int.lt_irrefl, Nat.reduceMod, Nat.reduceBEq, eq_self, false_and, and_false]))
      | (refine wpA_ret (fin_pureM (.inl rfl) (by simp only [go_sem, Nat.reduceLT, Nat.reduceEqDiff, Nat.reduceAdd, Nat.reduceSub, Nat.reduceMul, Nat.reduceLeDiff, reduceIte, reduceCtorEq, Int.lt_irrefl, Nat.reduceMod, Nat.reduceBEq, eq_self, false_and, and_false]) (by simp only [go_sem, Nat.reduceLT, Nat.reduceEqDiff, Nat.reduceAdd, Nat.reduceSub, Nat.reduceMul, Nat.reduceLeDiff, reduceIte, reduceCtorEq, Int.lt_irrefl, Nat.reduceMod, Nat.reduceBEq, eq_self, false_and, and_false]; rfl) ?_ (hW _)); (try simp only [go_sem, Nat.reduceLT, Nat.reduceEqDiff, Nat.reduceAdd, Nat.reduceSub, Nat.reduceMul, Nat.reduceLeDiff, reduceIte, reduceCtorEq, Int.lt_irrefl, Nat.reduceMod, Nat.reduceBEq, eq_self, false_and, and_false]))
      | fail)
    have hat : atF t now = ([], false) := by rw [atF, if_pos hr, firstI_none hI]
    rw [hat]; rfl

/-! the reference -/
theorem Until_spec (t : Trace) (i : Nat) (hi : i < 5000) (hl : t.frames.length ≤ 9223372036854775807) : PureE Try.prog 42 [aTrace t, .v (.int .i64 i)] [] (.v (.int .i64 (endT t i))) := by
  intro F b hn
  refine callE_of hT (fn := Try.f42) rfl rfl rfl (by simp [fnt]) (by simp) fun htop hW => ?_
  have hw : IntKind.i64.wrap ((i : Int) + 1) = ((i + 1 : Nat) : Int) := wrap1 hi (by omega)
  rcases Nat.lt_or_ge (i + 1) t.frames.length with hi2 | hi2
  · obtain ⟨g, hg, _, _⟩ := get_of_lt hi2
    have hend : endT t i = g.time := by rw [endT, hg]
    have hi3 : (((i + 1 : Nat) : Int) < t.frames.length) := by omega
    repeat' (first
      | refine wpA_seq ?_
      | refine wpA_skip ?_
      | (refine wpA_exit ?_)
      | (refine hK _ _ ?_; clear hK K)
      | (refine hK _ _ rfl ?_; clear hK K)
      | (refine wpA_reg hT hE fun K hK => ?_; simp only [go_sem, Nat.reduceLT, Nat.reduceEqDiff, Nat.reduceAdd, Nat.reduceSub, Nat.reduceMul, Nat.reduceLeDiff, reduceIte, reduceCtorEq, Int.lt_irrefl, Nat.reduceMod, Nat.reduceBEq, eq_self, false_and, and_false, hg, Int.natCast_nonneg, hw, hi3])
      | (refine wpA_drw hT hE hmix (by kernel_rfl) fun K hK => ?_; simp only [go_sem, Nat.reduceLT, Nat.reduceEqDiff, Nat.reduceAdd, Nat.reduceSub, Nat.reduceMul, Nat.reduceLeDiff, reduceIte, reduceCtorEq, Int.lt_irrefl, Nat.reduceMod, Nat.reduceBEq, eq_self, false_and, and_false, hg, Int.natCast_nonneg, hw, hi3])
      | (refine gd_t (fun h => ?_) (fun h => ?_) <;> (try simp only [h, go_sem, Nat.reduceLT, Nat.reduceEqDiff, Nat.reduceAdd, Nat.reduceSub, Nat.reduceMul, Nat.reduceLeDiff, reduceIte, reduceCtorEq, Int.lt_irrefl, Nat.reduceMod, Nat.reduceBEq, eq_self, false_and, and_false, hg, Int.natCast_nonneg, hw, hi3]))
      | (refine gd_f (fun h => ?_) (fun h => ?_) <;> (try simp only [h, go_sem, Nat.reduceLT, Nat.reduceEqDiff, Nat.reduceAdd, Nat.reduceSub, Nat.reduceMul, Nat.reduceLeDiff, reduceIte, reduceCtorEq, Int.lt_irrefl, Nat.reduceMod, Nat.reduceBEq, eq_self, false_and, and_false, hg, Int.natCast_nonneg, hw, hi3]))
      | refine wpA_block ?_
      | (refine wpA_cond rfl (fun h => ?_) (fun h => ?_) <;> (try (cases h; done)))
      | (refine wpA_ret (fin_pure (.inl rfl) rfl (by simp only [go_sem, Nat.reduceLT, Nat.reduceEqDiff, Nat.reduceAdd, Nat.reduceSub, Nat.reduceMul, Nat.reduceLeDiff, reduceIte, reduceCtorEq, Int.lt_irrefl, Nat.reduceMod, Nat.reduceBEq, eq_self, false_and, and_false, hg, Int.natCast_nonneg, hw, hi3]; rfl) ?_ (hW _)); (try simp only [go_sem, Nat.reduceLT, Nat.reduceEqDiff, Nat.reduceAdd, Nat.reduceSub, Nat.reduceMul, Nat.reduceLeDiff, reduceIte, reduceCtorEq, Int.lt_irrefl, Nat.reduceMod, Nat.reduceBEq, eq_self, false_and, and_false, hg, Int.natCast_nonneg, hw, hi3]))
      | (refine wpA_ret (fin_pureM (.inl rfl) (by simp only [go_sem, Nat.reduceLT, Nat.reduceEqDiff, Nat.reduceAdd, Nat.reduceSub, Nat.reduceMul, Nat.reduceLeDiff, reduceIte, reduceCtorEq, Int.lt_irrefl, Nat.reduceMod, Nat.reduceBEq, eq_self, false_and, and_false]) (by simp only [go_sem, Nat.reduceLT, Nat.reduceEqDiff, Nat.reduceAdd, Nat.reduceSub, Nat.reduceMul, Nat.reduceLeDiff, reduceIte, reduceCtorEq, Int.lt_irrefl, Nat.reduceMod, Nat.reduceBEq, eq_self, false_and, and_false, hg, Int.natCast_nonneg, hw, hi3]; rfl) ?_ (hW _)); (try simp only [go_sem, Nat.reduceLT, Nat.reduceEqDiff, Nat.reduceAdd, Nat.reduceSub, Nat.reduceMul, Nat.reduceLeDiff, reduceIte, reduceCtorEq, Int.lt_irrefl, Nat.reduceMod, Nat.reduceBEq, eq_self, false_and, and_false, hg, Int.natCast_nonneg, hw, hi3]))
      | fail)
    rw [hend]
  · have hg : t.frames[i + 1]? = none := List.getElem?_eq_none hi2
    have hend : endT t i = t.fin := by rw [endT, hg]
    have hi3 : ¬ (((i + 1 : Nat) : Int) < t.frames.length) := by omega
    repeat' (first
      | refine wpA_seq ?_
      | refine wpA_skip ?_
      | (refine wpA_exit ?_)
      | (refine hK _ _ ?_; clear hK K)
      | (refine hK _ _ rfl ?_; clear hK K)
      | (refine wpA_reg hT hE fun K hK => ?_; simp only [go_sem, Nat.reduceLT, Nat.reduceEqDiff, Nat.reduceAdd, Nat.reduceSub, Nat.reduceMul, Nat.reduceLeDiff, reduceIte, reduceCtorEq, Int.lt_irrefl, Nat.reduceMod, Nat.reduceBEq, eq_self, false_and, and_false, Int.natCast_nonneg, hw, hi3])
      | (refine wpA_drw hT hE hmix (by kernel_rfl) fun K hK => ?_; simp only [go_sem, Nat.reduceLT, Nat.reduceEqDiff, Nat.reduceAdd, Nat.reduceSub, Nat.reduceMul, Nat.reduceLeDiff, reduceIte, reduceCtorEq, Int.lt_irrefl, Nat.reduceMod, Nat.reduceBEq, eq_self, false_and, and_false, Int.natCast_nonneg, hw, hi3])
      | (refine gd_t (fun h => ?_) (fun h => ?_) <;> (try simp only [h, go_sem, Nat.reduceLT, Nat.reduceEqDiff, Nat.reduceAdd, Nat.reduceSub, Nat.reduceMul, Nat.reduceLeDiff, reduceIte, reduceCtorEq, Int.lt_irrefl, Nat.reduceMod, Nat.reduceBEq, eq_self, false_and, and_false, Int.natCast_nonneg, hw, hi3]))
      | (refine gd_f (fun h => ?_) (fun h => ?_) <;> (try simp only [h, go_sem, Nat.reduceLT, Nat.reduceEqDiff, Nat.reduceAdd, Nat.reduceSub, Nat.reduceMul, Nat.reduceLeDiff, reduceIte, reduceCtorEq, Int.lt_irrefl, Nat.reduceMod, Nat.reduceBEq, eq_self, false_and, and_false, Int.natCast_nonneg, hw, hi3]))
      | refine wpA_block ?_
      | (refine wpA_cond rfl (fun h => ?_) (fun h => ?_) <;> (try (cases h; done)))
      | (refine wpA_ret (fin_pure (.inl rfl) rfl (by simp only [go_sem, Nat.reduceLT, Nat.reduceEqDiff, Nat.reduceAdd, Nat.reduceSub, Nat.reduceMul, Nat.reduceLeDiff, reduceIte, reduceCtorEq, Int.lt_irrefl, Nat.reduceMod, Nat.reduceBEq, eq_self, false_and, and_false, Int.natCast_nonneg, hw, hi3]; rfl) ?_ (hW _)); (try simp only [go_sem, Nat.reduceLT, Nat.reduceEqDiff, Nat.reduceAdd, Nat.reduceSub, Nat.reduceMul, Nat.reduceLeDiff, reduceIte, reduceCtorEq, Int.lt_irrefl, Nat.reduceMod, Nat.reduceBEq, eq_self, false_and, and_false, Int.natCast_nonneg, hw, hi3]))
      | (refine wpA_ret (fin_pureM (.inl rfl) (by simp only [go_sem, Nat.reduceLT, Nat.reduceEqDiff, Nat.reduceAdd, Nat.reduceSub, Nat.reduceMul, Nat.reduceLeDiff, reduceIte, reduceCtorEq, Int.lt_irrefl, Nat.reduceMod, Nat.reduceBEq, eq_self, false_and, and_false]) (by simp only [go_sem, Nat.reduceLT, Nat.reduceEqDiff, Nat.reduceAdd, Nat.reduceSub, Nat.reduceMul, Nat.reduceLeDiff, reduceIte, reduceCtorEq, Int.lt_irrefl, Nat.reduceMod, Nat.reduceBEq, eq_self, false_and, and_false, Int.natCast_nonneg, hw, hi3]; rfl) ?_ (hW _)); (try simp only [go_sem, Nat.reduceLT, Nat.reduceEqDiff, Nat.reduceAdd, Nat.reduceSub, Nat.reduceMul, Nat.reduceLeDiff, reduceIte, reduceCtorEq, Int.lt_irrefl, Nat.reduceMod, Nat.reduceBEq, eq_self, false_and, and_false, Int.natCast_nonneg, hw, hi3]))
      | fail)
    rw [hend]
end Go.Proofs.Ythlmfkeeneeaoaa

namespace Go.Proofs.Ythlmfkeeneeaoaa
open Go Go.Av

def refAtF (t : Trace) (now : Int) : Int := match firstI (holdsAt t now) t.frames.length with | some i => i | none => -1
theorem RefAt_spec (t : Trace) (now : Int) (hl : t.frames.length ≤ 4000) : PureE Try.prog 24 [aTrace t, .v (.int .i64 now)] [] (.v (.int .i64 (refAtF t now))) := by
  intro F b hn
  refine callE_of hT (fn := Try.f24) rfl rfl rfl (by simp [fnt]) (by simp) fun htop hW => ?_
  repeat' (first
    | refine wpA_seq ?_
    | refine wpA_skip ?_
    | (refine wpA_exit ?_)
    | (refine hK _ _ ?_; clear hK K)
    | (refine hK _ _ rfl ?_; clear hK K)
    | (refine wpA_reg hT hE fun K hK => ?_; simp only [go_sem, Nat.reduceLT, Nat.reduceEqDiff, Nat.reduceAdd, Nat.reduceSub, Nat.reduceMul, Nat.reduceLeDiff, reduceIte, reduceCtorEq, Int.lt_irrefl, Nat.reduceMod, Nat.reduceBEq, eq_self, false_and, and_false])
    | (refine wpA_drw hT hE hmix (by kernel_rfl) fun K hK => ?_; simp only [go_sem, Nat.reduceLT, Nat.reduceEqDiff, Nat.reduceAdd, Nat.reduceSub, Nat.reduceMul, Nat.reduceLeDiff, reduceIte, reduceCtorEq, Int.lt_irrefl, Nat.reduceMod, Nat.reduceBEq, eq_self, false_and, and_false])
    | (refine gd_t (fun h => ?_) (fun h => ?_) <;> (try simp only [h, go_sem, Nat.reduceLT, Nat.reduceEqDiff, Nat.reduceAdd, Nat.reduceSub, Nat.reduceMul, Nat.reduceLeDiff, reduceIte, reduceCtorEq, Int.lt_irrefl, Nat.reduceMod, Nat.reduceBEq, eq_self, false_and, and_false]))
    | (refine gd_f (fun h => ?_) (fun h => ?_) <;> (try simp only [h, go_sem, Nat.reduceLT, Nat.reduceEqDiff, Nat.reduceAdd, Nat.reduceSub, Nat.reduceMul, Nat.reduceLeDiff, reduceIte, reduceCtorEq, Int.lt_irrefl, Nat.reduceMod, Nat.reduceBEq, eq_self, false_and, and_false]))
    | refine wpA_block ?_
    | (refine wpA_cond rfl (fun h => ?_) (fun h => ?_) <;> (try (cases h; done)))
    | (refine wpA_ret (fin_pure (.inl rfl) rfl (by simp only [go_sem, Nat.reduceLT, Nat.reduceEqDiff, Nat.reduceAdd, Nat.reduceSub, Nat.reduceMul, Nat.reduceLeDiff, reduceIte, reduceCtorEq, Int.lt_irrefl, Nat.reduceMod, Nat.reduceBEq, eq_self, false_and, and_false]; rfl) ?_ (hW _)); (try simp only [go_sem, Nat.reduceLT, Nat.reduceEqDiff, Nat.reduceAdd, Nat.reduceSub, Nat.reduceMul, Nat.reduceLeDiff, reduceIte, reduceCtorEq, Int.lt_irrefl, Nat.reduceMod, Nat.reduceBEq, eq_self, false_and, and_false]))
    | (refine wpA_ret (fin_pureM (.inl rfl) (by simp only [go_sem, Nat.reduceLT, Nat.reduceEqDiff, Nat.reduceAdd, Nat.reduceSub, Nat.reduceMul, Nat.reduceLeDiff, reduceIte, reduceCtorEq, Int.lt_irrefl, Nat.reduceMod, Nat.reduceBEq, eq_self, false_and, and_false]) (by simp only [go_sem, Nat.reduceLT, Nat.reduceEqDiff, Nat.reduceAdd, Nat.reduceSub, Nat.reduceMul, Nat.reduceLeDiff, reduceIte, reduceCtorEq, Int.lt_irrefl, Nat.reduceMod, Nat.reduceBEq, eq_self, false_and, and_false]; rfl) ?_ (hW _)); (try simp only [go_sem, Nat.reduceLT, Nat.reduceEqDiff, Nat.reduceAdd, Nat.reduceSub, Nat.reduceMul, Nat.reduceLeDiff, reduceIte, reduceCtorEq, Int.lt_irrefl, Nat.reduceMod, Nat.reduceBEq, eq_self, false_and, and_false]))
    | fail)
  refine wpA_kp [1, 2, 5] [0] (by simp) (by simp) rfl fun K hK => ?_
  simp only [go_sem, Nat.reduceLT, Nat.reduceEqDiff, Nat.reduceAdd, Nat.reduceSub, Nat.reduceMul, Nat.reduceLeDiff, reduceIte, reduceCtorEq, Int.lt_irrefl, Nat.reduceMod, Nat.reduceBEq, eq_self, false_and, and_false, hW _]
  refine hK _ ?_; clear hK K
  refine wpA_for t.frames.length (fun i => { tm := [(1, .v (.int .i64 now)), (2, .ptr (b + 0) 0), (5, .v (.int .i64 i))], F := F, L := [.blk 24 [.sl (t.frames.map aFrame), .v (.int .i64 t.fin)]], ds := [] }) (fun i => ∀ j, j < i → holdsAt t now j = false) rfl (by simp) ?_ ?_
  · intro i hi hI
    obtain ⟨f, hf, _, _⟩ := get_of_lt hi
    have hi' : ((i : Int) < t.frames.length) := by omega
    have hw := wrap1 hi (by omega)
    repeat' (first
      | refine wpA_seq ?_
      | refine wpA_skip ?_
      | (refine wpA_exit ?_)
      | (refine hK _ _ ?_; clear hK K)
      | (refine hK _ _ rfl ?_; clear hK K)
      | (refine wpA_reg hT hE fun K hK => ?_; simp only [go_sem, Nat.reduceLT, Nat.reduceEqDiff, Nat.reduceAdd, Nat.reduceSub, Nat.reduceMul, Nat.reduceLeDiff, reduceIte, reduceCtorEq, Int.lt_irrefl, Nat.reduceMod, Nat.reduceBEq, eq_self, false_and, and_false, hf, Int.natCast_nonneg, hi'])
      | (refine wpA_drw hT hE hmix (by kernel_rfl) fun K hK => ?_; simp only [go_sem, Nat.reduceLT, Nat.reduceEqDiff, Nat.reduceAdd, Nat.reduceSub, Nat.reduceMul, Nat.reduceLeDiff, reduceIte, reduceCtorEq, Int.lt_irrefl, Nat.reduceMod, Nat.reduceBEq, eq_self, false_and, and_false, hf, Int.natCast_nonneg, hi'])
      | (refine gd_t (fun h => ?_) (fun h => ?_) <;> (try simp only [h, go_sem, Nat.reduceLT, Nat.reduceEqDiff, Nat.reduceAdd, Nat.reduceSub, Nat.reduceMul, Nat.reduceLeDiff, reduceIte, reduceCtorEq, Int.lt_irrefl, Nat.reduceMod, Nat.reduceBEq, eq_self, false_and, and_false, hf, Int.natCast_nonneg, hi']))
      | (refine gd_f (fun h => ?_) (fun h => ?_) <;> (try simp only [h, go_sem, Nat.reduceLT, Nat.reduceEqDiff, Nat.reduceAdd, Nat.reduceSub, Nat.reduceMul, Nat.reduceLeDiff, reduceIte, reduceCtorEq, Int.lt_irrefl, Nat.reduceMod, Nat.reduceBEq, eq_self, false_and, and_false, hf, Int.natCast_nonneg, hi']))
      | refine wpA_block ?_
      | (refine wpA_cond rfl (fun h => ?_) (fun h => ?_) <;> (try (cases h; done)))
      | (refine wpA_ret (fin_pure (.inl rfl) rfl (by simp only [go_sem, Nat.reduceLT, Nat.reduceEqDiff, Nat.reduceAdd, Nat.reduceSub, Nat.reduceMul, Nat.reduceLeDiff, reduceIte, reduceCtorEq, Int.lt_irrefl, Nat.reduceMod, Nat.reduceBEq, eq_self, false_and, and_false, hf, Int.natCast_nonneg, hi']; rfl) ?_ (hW _)); (try simp only [go_sem, Nat.reduceLT, Nat.reduceEqDiff, Nat.reduceAdd, Nat.reduceSub, Nat.reduceMul, Nat.reduceLeDiff, reduceIte, reduceCtorEq, Int.lt_irrefl, Nat.reduceMod, Nat.reduceBEq, eq_self, false_and, and_false, hf, Int.natCast_nonneg, hi']))
      | (refine wpA_ret (fin_pureM (.inl rfl) (by simp only [go_sem, Nat.reduceLT, Nat.reduceEqDiff, Nat.reduceAdd, Nat.reduceSub, Nat.reduceMul, Nat.reduceLeDiff, reduceIte, reduceCtorEq, Int.lt_irrefl, Nat.reduceMod, Nat.reduceBEq, eq_self, false_and, and_false]) (by simp only [go_sem, Nat.reduceLT, Nat.reduceEqDiff, Nat.reduceAdd, Nat.reduceSub, Nat.reduceMul, Nat.reduceLeDiff, reduceIte, reduceCtorEq, Int.lt_irrefl, Nat.reduceMod, Nat.reduceBEq, eq_self, false_and, and_false, hf, Int.natCast_nonneg, hi']; rfl) ?_ (hW _)); (try simp only [go_sem, Nat.reduceLT, Nat.reduceEqDiff, Nat.reduceAdd, Nat.reduceSub, Nat.reduceMul, Nat.reduceLeDiff, reduceIte, reduceCtorEq, Int.lt_irrefl, Nat.reduceMod, Nat.reduceBEq, eq_self, false_and, and_false, hf, Int.natCast_nonneg, hi']))
      | (refine ⟨_, [], [], PureE.call (Until_spec t i (by omega) (by omega)) (by first | (simp; done) | (simp [hpF_add, hpF_lo]; done) | exact need_hp htop hn | exact need_hp2 htop hn), ?_⟩; (try simp only [go_sem, Nat.reduceLT, Nat.reduceEqDiff, Nat.reduceAdd, Nat.reduceSub, Nat.reduceMul, Nat.reduceLeDiff, reduceIte, reduceCtorEq, Int.lt_irrefl, Nat.reduceMod, Nat.reduceBEq, eq_self, false_and, and_false, hf, Int.natCast_nonneg, hi']))
      | (refine ⟨_, _, [], PureE.toS (Until_spec t i (by omega) (by omega)), by first | (simp; done) | (simp [hpF_add, hpF_lo]; done) | exact need_hp htop hn | exact need_hp2 htop hn, by simp, ?_⟩; (try simp only [go_sem, Nat.reduceLT, Nat.reduceEqDiff, Nat.reduceAdd, Nat.reduceSub, Nat.reduceMul, Nat.reduceLeDiff, reduceIte, reduceCtorEq, Int.lt_irrefl, Nat.reduceMod, Nat.reduceBEq, eq_self, false_and, and_false, hf, Int.natCast_nonneg, hi']))
      | fail)
    · have hh : holdsAt t now i = true := by simp_all [holdsAt]
      rw [refAtF, firstI_some hi hh hI]
    · refine ⟨wk_to (wk_kp [1, 2, 5] [0] (by simp) (by simp) rfl) (by simp only [go_sem, Nat.reduceLT, Nat.reduceEqDiff, Nat.reduceAdd, Nat.reduceSub, Nat.reduceMul, Nat.reduceLeDiff, reduceIte, reduceCtorEq, Int.lt_irrefl, Nat.reduceMod, Nat.reduceBEq, eq_self, false_and, and_false, hW _,  hw]), ?_⟩
      exact below_succ hI (by simp [holdsAt, hf, h])
    · rename_i h0
      refine ⟨wk_to (wk_kp [1, 2, 5] [0] (by simp) (by simp) rfl) (by simp only [go_sem, Nat.reduceLT, Nat.reduceEqDiff, Nat.reduceAdd, Nat.reduceSub, Nat.reduceMul, Nat.reduceLeDiff, reduceIte, reduceCtorEq, Int.lt_irrefl, Nat.reduceMod, Nat.reduceBEq, eq_self, false_and, and_false, hW _,  hw]), ?_⟩
      exact below_succ hI (by simp only [holdsAt, hf, h0]; rfl)
  · intro hI
    repeat' (first
      | refine wpA_seq ?_
      | refine wpA_skip ?_
      | (refine wpA_exit ?_)
      | (refine hK _ _ ?_; clear hK K)
      | (refine hK _ _ rfl ?_; clear hK K)
      | (refine wpA_reg hT hE fun K hK => ?_; simp only [go_sem, Nat.reduceLT, Nat.reduceEqDiff, Nat.reduceAdd, Nat.reduceSub, Nat.reduceMul, Nat.reduceLeDiff, reduceIte, reduceCtorEq, Int.lt_irrefl, Nat.reduceMod, Nat.reduceBEq, eq_self, false_and, and_false])
      | (refine wpA_drw hT hE hmix (by kernel_rfl) fun K hK => ?_; simp only [go_sem, Nat.reduceLT, Nat.reduceEqDiff, Nat.reduceAdd, Nat.reduceSub, Nat.reduceMul, Nat.reduceLeDiff, reduceIte, reduceCtorEq, Int.lt_irrefl, Nat.reduceMod, Nat.reduceBEq, eq_self, false_and, and_false])
      | (refine gd_t (fun h => ?_) (fun h => ?_) <;> (try simp only [h, go_sem, Nat.reduceLT, Nat.reduceEqDiff, Nat.reduceAdd, Nat.reduceSub, Nat.reduceMul, Nat.reduceLeDiff, reduceIte, reduceCtorEq, Int.lt_irrefl, Nat.reduceMod, Nat.reduceBEq, eq_self, false_and, and_false]))
      | (refine gd_f (fun h => ?_) (fun h => ?_) <;> (try simp only [h, go_sem, Nat.reduceLT, Nat.reduceEqDiff, Nat.reduceAdd, Nat.reduceSub, Nat.reduceMul, Nat.reduceLeDiff, reduceIte, reduceCtorEq, Int.lt_irrefl, Nat.reduceMod, Nat.reduceBEq, eq_self, false_and, and_false]))
      | refine wpA_block ?_
      | (refine wpA_cond rfl (fun h => ?_) (fun h => ?_) <;> (try (cases h; done)))
      | (refine wpA_ret (fin_pure (.inl rfl) rfl (by simp only [go_sem, Nat.reduceLT, Nat.reduceEqDiff, Nat.reduceAdd, Nat.reduceSub, Nat.reduceMul, Nat.reduceLeDiff, reduceIte, reduceCtorEq, Int.lt_irrefl, Nat.reduceMod, Nat.reduceBEq, eq_self, false_and, and_false]; rfl) ?_ (hW _)); (try simp only [go_sem, Nat.reduceLT, Nat.reduceEqDiff, Nat.reduceAdd, Nat.reduceSub, Nat.reduceMul, Nat.reduceLeDiff, reduceIte, reduceCtorEq, Int.lt_irrefl, Nat.reduceMod, Nat.reduceBEq, eq_self, false_and, and_false]))
      | (refine wpA_ret (fin_pureM (.inl rfl) (by simp only [go_sem, Nat.reduceLT, Nat.reduceEqDiff, Nat.reduceAdd, Nat.reduceSub, Nat.reduceMul, Nat.reduceLeDiff, reduceIte, reduceCtorEq, Int.lt_irrefl, Nat.reduceMod, Nat.reduceBEq, eq_self, false_and, and_false]) (by simp only [go_sem, Nat.reduceLT, Nat.reduceEqDiff, Nat.reduceAdd, Nat.reduceSub, Nat.reduceMul, Nat.reduceLeDiff, reduceIte, reduceCtorEq, Int.lt_irrefl, Nat.reduceMod, Nat.reduceBEq, eq_self, false_and, and_false]; rfl) ?_ (hW _)); (try simp only [go_sem, Nat.reduceLT, Nat.reduceEqDiff, Nat.reduceAdd, Nat.reduceSub, Nat.reduceMul, Nat.reduceLeDiff, reduceIte, reduceCtorEq, Int.lt_irrefl, Nat.reduceMod, Nat.reduceBEq, eq_self, false_and, and_false]))
      | fail)
    rw [refAtF, firstI_none hI]

def onF (l : List Put) (v : Int) : Int := match l.find? (fun p => p.vcpu == v) with | some p => p.cpu | none => -1
theorem onF_some {l : List Put} {v : Int} {i : Nat} {p : Put} (hp : l[i]? = some p) (h : (p.vcpu == v) = true) (hI : ∀ q ∈ l.take i, (q.vcpu == v) = false) : onF l v = p.cpu := by
  have : l.find? (fun p => p.vcpu == v) = some p := by
    have hi : i < l.length := (List.getElem?_eq_some_iff.1 hp).1
    have e : l = l.take i ++ l.drop i := (List.take_append_drop i l).symm
    rw [e, List.find?_append, List.find?_eq_none.2 (by simpa using hI)]
    rw [List.drop_eq_getElem_cons hi]
    have : l[i] = p := (List.getElem?_eq_some_iff.1 hp).2
    rw [this]; simp [List.find?, h]
  rw [onF, this]
theorem onF_none {l : List Put} {v : Int} (hI : ∀ q ∈ l, (q.vcpu == v) = false) : onF l v = -1 := by
  rw [onF, List.find?_eq_none.2 (by simpa using hI)]
theorem On_spec (l : List Put) (v : Int) : PureE Try.prog 43 [.sl (l.map aPut), .v (.int .i64 v)] [] (.v (.int .i64 (onF l v))) := by
  intro F b hn
  refine callE_of hT (fn := Try.f43) rfl rfl rfl (by simp [fnt]) (by simp) fun htop hW => ?_
  refine wpA_bound 0 (l.map aPut) rfl fun hlen => ?_
  rw [List.length_map] at hlen
  repeat' (first
    | refine wpA_seq ?_
    | refine wpA_skip ?_
    | (refine wpA_exit ?_)
    | (refine hK _ _ ?_; clear hK K)
    | (refine hK _ _ rfl ?_; clear hK K)
    | (refine wpA_reg hT hE fun K hK => ?_; simp only [go_sem, Nat.reduceLT, Nat.reduceEqDiff, Nat.reduceAdd, Nat.reduceSub, Nat.reduceMul, Nat.reduceLeDiff, reduceIte, reduceCtorEq, Int.lt_irrefl, Nat.reduceMod, Nat.reduceBEq, eq_self, false_and, and_false])
    | (refine wpA_drw hT hE hmix (by kernel_rfl) fun K hK => ?_; simp only [go_sem, Nat.reduceLT, Nat.reduceEqDiff, Nat.reduceAdd, Nat.reduceSub, Nat.reduceMul, Nat.reduceLeDiff, reduceIte, reduceCtorEq, Int.lt_irrefl, Nat.reduceMod, Nat.reduceBEq, eq_self, false_and, and_false])
    | (refine gd_t (fun h => ?_) (fun h => ?_) <;> (try simp only [h, go_sem, Nat.reduceLT, Nat.reduceEqDiff, Nat.reduceAdd, Nat.reduceSub, Nat.reduceMul, Nat.reduceLeDiff, reduceIte, reduceCtorEq, Int.lt_irrefl, Nat.reduceMod, Nat.reduceBEq, eq_self, false_and, and_false]))
    | (refine gd_f (fun h => ?_) (fun h => ?_) <;> (try simp only [h, go_sem, Nat.reduceLT, Nat.reduceEqDiff, Nat.reduceAdd, Nat.reduceSub, Nat.reduceMul, Nat.reduceLeDiff, reduceIte, reduceCtorEq, Int.lt_irrefl, Nat.reduceMod, Nat.reduceBEq, eq_self, false_and, and_false]))
    | refine wpA_block ?_
    | (refine wpA_cond rfl (fun h => ?_) (fun h => ?_) <;> (try (cases h; done)))
    | (refine wpA_ret (fin_pure (.inl rfl) rfl (by simp only [go_sem, Nat.reduceLT, Nat.reduceEqDiff, Nat.reduceAdd, Nat.reduceSub, Nat.reduceMul, Nat.reduceLeDiff, reduceIte, reduceCtorEq, Int.lt_irrefl, Nat.reduceMod, Nat.reduceBEq, eq_self, false_and, and_false]; rfl) ?_ (hW _)); (try simp only [go_sem, Nat.reduceLT, Nat.reduceEqDiff, Nat.reduceAdd, Nat.reduceSub, Nat.reduceMul, Nat.reduceLeDiff, reduceIte, reduceCtorEq, Int.lt_irrefl, Nat.reduceMod, Nat.reduceBEq, eq_self, false_and, and_false]))
    | (refine wpA_ret (fin_pureM (.inl rfl) (by simp only [go_sem, Nat.reduceLT, Nat.reduceEqDiff, Nat.reduceAdd, Nat.reduceSub, Nat.reduceMul, Nat.reduceLeDiff, reduceIte, reduceCtorEq, Int.lt_irrefl, Nat.reduceMod, Nat.reduceBEq, eq_self, false_and, and_false]) (by simp only [go_sem, Nat.reduceLT, Nat.reduceEqDiff, Nat.reduceAdd, Nat.reduceSub, Nat.reduceMul, Nat.reduceLeDiff, reduceIte, reduceCtorEq, Int.lt_irrefl, Nat.reduceMod, Nat.reduceBEq, eq_self, false_and, and_false]; rfl) ?_ (hW _)); (try simp only [go_sem, Nat.reduceLT, Nat.reduceEqDiff, Nat.reduceAdd, Nat.reduceSub, Nat.reduceMul, Nat.reduceLeDiff, reduceIte, reduceCtorEq, Int.lt_irrefl, Nat.reduceMod, Nat.reduceBEq, eq_self, false_and, and_false]))
    | fail)
  refine wpA_kp [0, 1, 5] [] (by simp) (by simp) rfl fun K hK => ?_
  simp only [go_sem, Nat.reduceLT, Nat.reduceEqDiff, Nat.reduceAdd, Nat.reduceSub, Nat.reduceMul, Nat.reduceLeDiff, reduceIte, reduceCtorEq, Int.lt_irrefl, Nat.reduceMod, Nat.reduceBEq, eq_self, false_and, and_false, hW _]
  refine hK _ ?_; clear hK K
  refine wpA_for l.length (fun i => { tm := [(0, .sl (l.map aPut)), (1, .v (.int .i64 v)), (5, .v (.int .i64 i))], F := F, L := [], ds := [] }) (fun i => ∀ q ∈ l.take i, (q.vcpu == v) = false) rfl (by simp) ?_ ?_
  · intro i hi hI
    obtain ⟨p, hp, _, _⟩ := get_of_lt hi
    have hi' : ((i : Int) < l.length) := by omega
    repeat' (first
      | refine wpA_seq ?_
      | refine wpA_skip ?_
      | (refine wpA_exit ?_)
      | (refine hK _ _ ?_; clear hK K)
      | (refine hK _ _ rfl ?_; clear hK K)
      | (refine wpA_reg hT hE fun K hK => ?_; simp only [go_sem, Nat.reduceLT, Nat.reduceEqDiff, Nat.reduceAdd, Nat.reduceSub, Nat.reduceMul, Nat.reduceLeDiff, reduceIte, reduceCtorEq, Int.lt_irrefl, Nat.reduceMod, Nat.reduceBEq, eq_self, false_and, and_false, hp, Int.natCast_nonneg, hi'])
      | (refine wpA_drw hT hE hmix (by kernel_rfl) fun K hK => ?_; simp only [go_sem, Nat.reduceLT, Nat.reduceEqDiff, Nat.reduceAdd, Nat.reduceSub, Nat.reduceMul, Nat.reduceLeDiff, reduceIte, reduceCtorEq, Int.lt_irrefl, Nat.reduceMod, Nat.reduceBEq, eq_self, false_and, and_false, hp, Int.natCast_nonneg, hi'])
      | (refine gd_t (fun h => ?_) (fun h => ?_) <;> (try simp only [h, go_sem, Nat.reduceLT, Nat.reduceEqDiff, Nat.reduceAdd, Nat.reduceSub, Nat.reduceMul, Nat.reduceLeDiff, reduceIte, reduceCtorEq, Int.lt_irrefl, Nat.reduceMod, Nat.reduceBEq, eq_self, false_and, and_false, hp, Int.natCast_nonneg, hi']))
      | (refine gd_f (fun h => ?_) (fun h => ?_) <;> (try simp only [h, go_sem, Nat.reduceLT, Nat.reduceEqDiff, Nat.reduceAdd, Nat.reduceSub, Nat.reduceMul, Nat.reduceLeDiff, reduceIte, reduceCtorEq, Int.lt_irrefl, Nat.reduceMod, Nat.reduceBEq, eq_self, false_and, and_false, hp, Int.natCast_nonneg, hi']))
      | refine wpA_block ?_
      | (refine wpA_cond rfl (fun h => ?_) (fun h => ?_) <;> (try (cases h; done)))
      | (refine wpA_ret (fin_pure (.inl rfl) rfl (by simp only [go_sem, Nat.reduceLT, Nat.reduceEqDiff, Nat.reduceAdd, Nat.reduceSub, Nat.reduceMul, Nat.reduceLeDiff, reduceIte, reduceCtorEq, Int.lt_irrefl, Nat.reduceMod, Nat.reduceBEq, eq_self, false_and, and_false, hp, Int.natCast_nonneg, hi']; rfl) ?_ (hW _)); (try simp only [go_sem, Nat.reduceLT, Nat.reduceEqDiff, Nat.reduceAdd, Nat.reduceSub, Nat.reduceMul, Nat.reduceLeDiff, reduceIte, reduceCtorEq, Int.lt_irrefl, Nat.reduceMod, Nat.reduceBEq, eq_self, false_and, and_false, hp, Int.natCast_nonneg, hi']))
      | (refine wpA_ret (fin_pureM (.inl rfl) (by simp only [go_sem, Nat.reduceLT, Nat.reduceEqDiff, Nat.reduceAdd, Nat.reduceSub, Nat.reduceMul, Nat.reduceLeDiff, reduceIte, reduceCtorEq, Int.lt_irrefl, Nat.reduceMod, Nat.reduceBEq, eq_self, false_and, and_false]) (by simp only [go_sem, Nat.reduceLT, Nat.reduceEqDiff, Nat.reduceAdd, Nat.reduceSub, Nat.reduceMul, Nat.reduceLeDiff, reduceIte, reduceCtorEq, Int.lt_irrefl, Nat.reduceMod, Nat.reduceBEq, eq_self, false_and, and_false, hp, Int.natCast_nonneg, hi']; rfl) ?_ (hW _)); (try simp only [go_sem, Nat.reduceLT, Nat.reduceEqDiff, Nat.reduceAdd, Nat.reduceSub, Nat.reduceMul, Nat.reduceLeDiff, reduceIte, reduceCtorEq, Int.lt_irrefl, Nat.reduceMod, Nat.reduceBEq, eq_self, false_and, and_false, hp, Int.natCast_nonneg, hi']))
      | fail)
    · rw [onF_some hp h hI]
    · refine ⟨wk_to (wk_kp [0, 1, 5] [] (by simp) (by simp) rfl) (by simp only [go_sem, Nat.reduceLT, Nat.reduceEqDiff, Nat.reduceAdd, Nat.reduceSub, Nat.reduceMul, Nat.reduceLeDiff, reduceIte, reduceCtorEq, Int.lt_irrefl, Nat.reduceMod, Nat.reduceBEq, eq_self, false_and, and_false, hW _,  wrap1 hi hlen]), ?_⟩
      exact all_take hp hI h
  · intro hI
    repeat' (first
      | refine wpA_seq ?_
      | refine wpA_skip ?_
      | (refine wpA_exit ?_)
      | (refine hK _ _ ?_; clear hK K)
      | (refine hK _ _ rfl ?_; clear hK K)
      | (refine wpA_reg hT hE fun K hK => ?_; simp only [go_sem, Nat.reduceLT, Nat.reduceEqDiff, Nat.reduceAdd, Nat.reduceSub, Nat.reduceMul, Nat.reduceLeDiff, reduceIte, reduceCtorEq, Int.lt_irrefl, Nat.reduceMod, Nat.reduceBEq, eq_self, false_and, and_false])
      | (refine wpA_drw hT hE hmix (by kernel_rfl) fun K hK => ?_; simp only [go_sem, Nat.reduceLT, Nat.reduceEqDiff, Nat.reduceAdd, Nat.reduceSub, Nat.reduceMul, Nat.reduceLeDiff, reduceIte, reduceCtorEq, Int.lt_irrefl, Nat.reduceMod, Nat.reduceBEq, eq_self, false_and, and_false])
      | (refine gd_t (fun h => ?_) (fun h => ?_) <;> (try simp only [h, go_sem, Nat.reduceLT, Nat.reduceEqDiff, Nat.reduceAdd, Nat.reduceSub, Nat.reduceMul, Nat.reduceLeDiff, reduceIte, reduceCtorEq, Int.lt_irrefl, Nat.reduceMod, Nat.reduceBEq, eq_self, false_and, and_false]))
      | (refine gd_f (fun h => ?_) (fun h => ?_) <;> (try simp only [h, go_sem, Nat.reduceLT, Nat.reduceEqDiff, Nat.reduceAdd, Nat.reduceSub, Nat.reduceMul, Nat.reduceLeDiff, reduceIte, reduceCtorEq, Int.lt_irrefl, Nat.reduceMod, Nat.reduceBEq, eq_self, false_and, and_false]))
      | refine wpA_block ?_
      | (refine wpA_cond rfl (fun h => ?_) (fun h => ?_) <;> (try (cases h; done)))
      | (refine wpA_ret (fin_pure (.inl rfl) rfl (by simp only [go_sem, Nat.reduceLT, Nat.reduceEqDiff, Nat.reduceAdd, Nat.reduceSub, Nat.reduceMul, Nat.reduceLeDiff, reduceIte, reduceCtorEq, Int.lt_irrefl, Nat.reduceMod, Nat.reduceBEq, eq_self, false_and, and_false]; rfl) ?_ (hW _)); (try simp only [go_sem, Nat.reduceLT, Nat.reduceEqDiff, Nat.reduceAdd, Nat.reduceSub, Nat.reduceMul, Nat.reduceLeDiff, reduceIte, reduceCtorEq, Int.lt_irrefl, Nat.reduceMod, Nat.reduceBEq, eq_self, false_and, and_false]))
      | (refine wpA_ret (fin_pureM (.inl rfl) (by simp only [go_sem, Nat.reduceLT, Nat.reduceEqDiff, Nat.reduceAdd, Nat.reduceSub, Nat.reduceMul, Nat.reduceLeDiff, reduceIte, reduceCtorEq, Int.lt_irrefl, Nat.reduceMod, Nat.reduceBEq, eq_self, false_and, and_false]) (by simp only [go_sem, Nat.reduceLT, Nat.reduceEqDiff, Nat.reduceAdd, Nat.reduceSub, Nat.reduceMul, Nat.reduceLeDiff, reduceIte, reduceCtorEq, Int.lt_irrefl, Nat.reduceMod, Nat.reduceBEq, eq_self, false_and, and_false]; rfl) ?_ (hW _)); (try simp only [go_sem, Nat.reduceLT, Nat.reduceEqDiff, Nat.reduceAdd, Nat.reduceSub, Nat.reduceMul, Nat.reduceLeDiff, reduceIte, reduceCtorEq, Int.lt_irrefl, Nat.reduceMod, Nat.reduceBEq, eq_self, false_and, and_false]))
      | fail)
    rw [List.take_length] at hI
    rw [onF_none hI]

/-- The share of a frame, told by its picture. -/
def shareL (g : List Put → Bool) (t : Trace) (a z : Int) (i : Nat) : Int := match t.frames[i]? with
  | some f => if g f.puts then mxI (mnI (endT t i) z - mxI f.time a) 0 else 0
  | none => 0
theorem shareL_any (p : Put → Bool) (t : Trace) (a z : Int) : share p t a z = shareL (fun l => l.any p) t a z := rfl
theorem shareL_bd {g : List Put → Bool} {t : Trace} {a z : Int} (hr : right t = true) (ha : timeOK a = true) (hz : timeOK z = true) (i : Nat) : 0 ≤ shareL g t a z i ∧ shareL g t a z i ≤ 1125899906842624 := by
  unfold shareL
  rw [timeOK_iff] at ha hz
  split
  · rename_i f hf
    have h1 := right_get hr hf
    have h2 := right_end hr i
    split
    · rw [mxI_max, mnI_min, mxI_max]; omega
    · omega
  · omega
def refG0 (v : Int) (l : List Put) : Bool := decide (v ≥ 1) && decide (onF l v ≥ 0)
def refG1 (c : Int) (l : List Put) : Bool := decide (c ≥ 0) && l.any (fun p => p.cpu == c)
def refPred (v c : Int) (l : List Put) : Bool := refG0 v l || refG1 c l
theorem refG1_step {c : Int} {l : List Put} {i : Nat} {p : Put} (hp : l[i]? = some p) : refG1 c (l.take (i + 1)) = (refG1 c (l.take i) || (decide (c ≥ 0) && (p.cpu == c))) := by
  unfold refG1
  rw [List.take_add_one, hp]
  cases decide (c ≥ 0) <;> simp

set_option maxHeartbeats 4000000 in
theorem RefRan_spec (t : Trace) (v c a z : Int) (hr : right t = true) (ha : timeOK a = true) (hz : timeOK z = true) :
    PureE Try.prog 26 [aTrace t, .v (.int .i64 v), .v (.int .i64 c), .v (.int .i64 a), .v (.int .i64 z)] [] (.v (.int .i64 (sumTo (shareL (refPred v c) t a z) t.frames.length))) := by
  intro F b hn
  refine callE_of hT (fn := Try.f26) rfl rfl rfl (by simp [fnt]) (by simp) fun htop hW => ?_
  have hl := right_len hr
  repeat' (first
    | refine wpA_seq ?_
    | refine wpA_skip ?_
    | (refine wpA_exit ?_)
    | (refine hK _ _ ?_; clear hK K)
    | (refine hK _ _ rfl ?_; clear hK K)
    | (refine wpA_reg hT hE fun K hK => ?_; simp only [go_sem, Nat.reduceLT, Nat.reduceEqDiff, Nat.reduceAdd, Nat.reduceSub, Nat.reduceMul, Nat.reduceLeDiff, reduceIte, reduceCtorEq, Int.lt_irrefl, Nat.reduceMod, Nat.reduceBEq, eq_self, false_and, and_false])
    | (refine wpA_drw hT hE hmix (by kernel_rfl) fun K hK => ?_; simp only [go_sem, Nat.reduceLT, Nat.reduceEqDiff, Nat.reduceAdd, Nat.reduceSub, Nat.reduceMul, Nat.reduceLeDiff, reduceIte, reduceCtorEq, Int.lt_irrefl, Nat.reduceMod, Nat.reduceBEq, eq_self, false_and, and_false])
    | (refine gd_t (fun h => ?_) (fun h => ?_) <;> (try simp only [h, go_sem, Nat.reduceLT, Nat.reduceEqDiff, Nat.reduceAdd, Nat.reduceSub, Nat.reduceMul, Nat.reduceLeDiff, reduceIte, reduceCtorEq, Int.lt_irrefl, Nat.reduceMod, Nat.reduceBEq, eq_self, false_and, and_false]))
    | (refine gd_f (fun h => ?_) (fun h => ?_) <;> (try simp only [h, go_sem, Nat.reduceLT, Nat.reduceEqDiff, Nat.reduceAdd, Nat.reduceSub, Nat.reduceMul, Nat.reduceLeDiff, reduceIte, reduceCtorEq, Int.lt_irrefl, Nat.reduceMod, Nat.reduceBEq, eq_self, false_and, and_false]))
    | refine wpA_block ?_
    | (refine wpA_cond rfl (fun h => ?_) (fun h => ?_) <;> (try (cases h; done)))
    | (refine wpA_ret (fin_pure (.inl rfl) rfl (by simp only [go_sem, Nat.reduceLT, Nat.reduceEqDiff, Nat.reduceAdd, Nat.reduceSub, Nat.reduceMul, Nat.reduceLeDiff, reduceIte, reduceCtorEq, Int.lt_irrefl, Nat.reduceMod, Nat.reduceBEq, eq_self, false_and, and_false]; rfl) ?_ (hW _)); (try simp only [go_sem, Nat.reduceLT, Nat.reduceEqDiff, Nat.reduceAdd, Nat.reduceSub, Nat.reduceMul, Nat.reduceLeDiff, reduceIte, reduceCtorEq, Int.lt_irrefl, Nat.reduceMod, Nat.reduceBEq, eq_self, false_and, and_false]))
    | (refine wpA_ret (fin_pureM (.inl rfl) (by simp only [go_sem, Nat.reduceLT, Nat.reduceEqDiff, Nat.reduceAdd, Nat.reduceSub, Nat.reduceMul, Nat.reduceLeDiff, reduceIte, reduceCtorEq, Int.lt_irrefl, Nat.reduceMod, Nat.reduceBEq, eq_self, false_and, and_false]) (by simp only [go_sem, Nat.reduceLT, Nat.reduceEqDiff, Nat.reduceAdd, Nat.reduceSub, Nat.reduceMul, Nat.reduceLeDiff, reduceIte, reduceCtorEq, Int.lt_irrefl, Nat.reduceMod, Nat.reduceBEq, eq_self, false_and, and_false]; rfl) ?_ (hW _)); (try simp only [go_sem, Nat.reduceLT, Nat.reduceEqDiff, Nat.reduceAdd, Nat.reduceSub, Nat.reduceMul, Nat.reduceLeDiff, reduceIte, reduceCtorEq, Int.lt_irrefl, Nat.reduceMod, Nat.reduceBEq, eq_self, false_and, and_false]))
    | fail)
  refine wpA_kp [1, 2, 3, 4, 5, 11, 12] [0] (by simp) (by simp) rfl fun K hK => ?_
  simp only [go_sem, Nat.reduceLT, Nat.reduceEqDiff, Nat.reduceAdd, Nat.reduceSub, Nat.reduceMul, Nat.reduceLeDiff, reduceIte, reduceCtorEq, Int.lt_irrefl, Nat.reduceMod, Nat.reduceBEq, eq_self, false_and, and_false, hW _]
  refine hK _ ?_; clear hK K
  refine wpA_for t.frames.length (fun i => { tm := [(1, .v (.int .i64 v)), (2, .v (.int .i64 c)), (3, .v (.int .i64 a)), (4, .v (.int .i64 z)), (5, .ptr (b + 0) 0), (11, .v (.int .i64 (sumTo (shareL (refPred v c) t a z) i))), (12, .v (.int .i64 i))], F := F, L := [.blk 24 [.sl (t.frames.map aFrame), .v (.int .i64 t.fin)]], ds := [] }) (fun i => True) rfl trivial ?_ ?_
  · intro i hi _
    obtain ⟨f, hf, _, _⟩ := get_of_lt hi
    have hi' : ((i : Int) < t.frames.length) := by omega
    have hw := wrap1 hi (by omega)
    have hpl := pic_len (right_get hr hf).2.2.2
    repeat' (first
      | refine wpA_seq ?_
      | refine wpA_skip ?_
      | (refine wpA_exit ?_)
      | (refine hK _ _ ?_; clear hK K)
      | (refine hK _ _ rfl ?_; clear hK K)
      | (refine wpA_reg hT hE fun K hK => ?_; simp only [go_sem, Nat.reduceLT, Nat.reduceEqDiff, Nat.reduceAdd, Nat.reduceSub, Nat.reduceMul, Nat.reduceLeDiff, reduceIte, reduceCtorEq, Int.lt_irrefl, Nat.reduceMod, Nat.reduceBEq, eq_self, false_and, and_false, hf, Int.natCast_nonneg, hi'])
      | (refine wpA_drw hT hE hmix (by kernel_rfl) fun K hK => ?_; simp only [go_sem, Nat.reduceLT, Nat.reduceEqDiff, Nat.reduceAdd, Nat.reduceSub, Nat.reduceMul, Nat.reduceLeDiff, reduceIte, reduceCtorEq, Int.lt_irrefl, Nat.reduceMod, Nat.reduceBEq, eq_self, false_and, and_false, hf, Int.natCast_nonneg, hi'])
      | (refine gd_t (fun h => ?_) (fun h => ?_) <;> (try simp only [h, go_sem, Nat.reduceLT, Nat.reduceEqDiff, Nat.reduceAdd, Nat.reduceSub, Nat.reduceMul, Nat.reduceLeDiff, reduceIte, reduceCtorEq, Int.lt_irrefl, Nat.reduceMod, Nat.reduceBEq, eq_self, false_and, and_false, hf, Int.natCast_nonneg, hi']))
      | (refine gd_f (fun h => ?_) (fun h => ?_) <;> (try simp only [h, go_sem, Nat.reduceLT, Nat.reduceEqDiff, Nat.reduceAdd, Nat.reduceSub, Nat.reduceMul, Nat.reduceLeDiff, reduceIte, reduceCtorEq, Int.lt_irrefl, Nat.reduceMod, Nat.reduceBEq, eq_self, false_and, and_false, hf, Int.natCast_nonneg, hi']))
      | refine wpA_block ?_
      | (refine wpA_cond rfl (fun h => ?_) (fun h => ?_) <;> (try (cases h; done)))
      | (refine wpA_ret (fin_pure (.inl rfl) rfl (by simp only [go_sem, Nat.reduceLT, Nat.reduceEqDiff, Nat.reduceAdd, Nat.reduceSub, Nat.reduceMul, Nat.reduceLeDiff, reduceIte, reduceCtorEq, Int.lt_irrefl, Nat.reduceMod, Nat.reduceBEq, eq_self, false_and, and_false, hf, Int.natCast_nonneg, hi']; rfl) ?_ (hW _)); (try simp only [go_sem, Nat.reduceLT, Nat.reduceEqDiff, Nat.reduceAdd, Nat.reduceSub, Nat.reduceMul, Nat.reduceLeDiff, reduceIte, reduceCtorEq, Int.lt_irrefl, Nat.reduceMod, Nat.reduceBEq, eq_self, false_and, and_false, hf, Int.natCast_nonneg, hi']))
      | (refine wpA_ret (fin_pureM (.inl rfl) (by simp only [go_sem, Nat.reduceLT, Nat.reduceEqDiff, Nat.reduceAdd, Nat.reduceSub, Nat.reduceMul, Nat.reduceLeDiff, reduceIte, reduceCtorEq, Int.lt_irrefl, Nat.reduceMod, Nat.reduceBEq, eq_self, false_and, and_false]) (by simp only [go_sem, Nat.reduceLT, Nat.reduceEqDiff, Nat.reduceAdd, Nat.reduceSub, Nat.reduceMul, Nat.reduceLeDiff, reduceIte, reduceCtorEq, Int.lt_irrefl, Nat.reduceMod, Nat.reduceBEq, eq_self, false_and, and_false, hf, Int.natCast_nonneg, hi']; rfl) ?_ (hW _)); (try simp only [go_sem, Nat.reduceLT, Nat.reduceEqDiff, Nat.reduceAdd, Nat.reduceSub, Nat.reduceMul, Nat.reduceLeDiff, reduceIte, reduceCtorEq, Int.lt_irrefl, Nat.reduceMod, Nat.reduceBEq, eq_self, false_and, and_false, hf, Int.natCast_nonneg, hi']))
      | (refine ⟨_, [], [], PureE.call (On_spec f.puts v) (by first | (simp; done) | (simp [hpF_add, hpF_lo]; done) | exact need_hp htop hn | exact need_hp2 htop hn), ?_⟩; (try simp only [go_sem, Nat.reduceLT, Nat.reduceEqDiff, Nat.reduceAdd, Nat.reduceSub, Nat.reduceMul, Nat.reduceLeDiff, reduceIte, reduceCtorEq, Int.lt_irrefl, Nat.reduceMod, Nat.reduceBEq, eq_self, false_and, and_false, hf, Int.natCast_nonneg, hi']))
      | (refine ⟨_, _, [], PureE.toS (On_spec f.puts v), by first | (simp; done) | (simp [hpF_add, hpF_lo]; done) | exact need_hp htop hn | exact need_hp2 htop hn, by simp, ?_⟩; (try simp only [go_sem, Nat.reduceLT, Nat.reduceEqDiff, Nat.reduceAdd, Nat.reduceSub, Nat.reduceMul, Nat.reduceLeDiff, reduceIte, reduceCtorEq, Int.lt_irrefl, Nat.reduceMod, Nat.reduceBEq, eq_self, false_and, and_false, hf, Int.natCast_nonneg, hi']))
      | fail)
    all_goals
      refine wpA_kp [1, 2, 3, 4, 5, 11, 12, 13, 14] [0] (by simp) (by simp) rfl fun K hK => ?_
      simp only [go_sem, Nat.reduceLT, Nat.reduceEqDiff, Nat.reduceAdd, Nat.reduceSub, Nat.reduceMul, Nat.reduceLeDiff, reduceIte, reduceCtorEq, Int.lt_irrefl, Nat.reduceMod, Nat.reduceBEq, eq_self, false_and, and_false, hW _]
      refine hK _ ?_; clear hK K
      obtain ⟨g0, hg0⟩ : ∃ g0, g0 = refG0 v f.puts := ⟨_, rfl⟩
      first
        | rw [show decide (onF f.puts v ≥ 0) = g0 from by rw [hg0, refG0, h]; rfl]
        | rw [show AVal.v (Value.bool false) = .v (.bool g0) from by rw [hg0, refG0, h]; rfl]
      refine wpA_for f.puts.length (fun k => { tm := [(1, .v (.int .i64 v)), (2, .v (.int .i64 c)), (3, .v (.int .i64 a)), (4, .v (.int .i64 z)), (5, .ptr (b + 0) 0), (11, .v (.int .i64 (sumTo (shareL (refPred v c) t a z) i))), (12, .v (.int .i64 i)), (13, .v (.bool (g0 || refG1 c (f.puts.take k)))), (14, .v (.int .i64 k))], F := F, L := [.blk 24 [.sl (t.frames.map aFrame), .v (.int .i64 t.fin)]], ds := [] }) (fun k => True) (by simp [refG1]) trivial ?_ ?_
      · intro k hk _
        obtain ⟨p, hp, _, _⟩ := get_of_lt hk
        have hk' : ((k : Int) < f.puts.length) := by omega
        have hwk := wrap1 hk (by omega)
        clear h
        have e := refG1_step (c := c) hp
        repeat' (first
          | refine wpA_seq ?_
          | refine wpA_skip ?_
          | (refine wpA_exit ?_)
          | (refine hK _ _ ?_; clear hK K)
          | (refine hK _ _ rfl ?_; clear hK K)
          | (refine wpA_reg hT hE fun K hK => ?_; simp only [go_sem, Nat.reduceLT, Nat.reduceEqDiff, Nat.reduceAdd, Nat.reduceSub, Nat.reduceMul, Nat.reduceLeDiff, reduceIte, reduceCtorEq, Int.lt_irrefl, Nat.reduceMod, Nat.reduceBEq, eq_self, false_and, and_false, hf, hp, Int.natCast_nonneg, hk'])
          | (refine wpA_drw hT hE hmix (by kernel_rfl) fun K hK => ?_; simp only [go_sem, Nat.reduceLT, Nat.reduceEqDiff, Nat.reduceAdd, Nat.reduceSub, Nat.reduceMul, Nat.reduceLeDiff, reduceIte, reduceCtorEq, Int.lt_irrefl, Nat.reduceMod, Nat.reduceBEq, eq_self, false_and, and_false, hf, hp, Int.natCast_nonneg, hk'])
          | (refine gd_t (fun h => ?_) (fun h => ?_) <;> (try simp only [h, go_sem, Nat.reduceLT, Nat.reduceEqDiff, Nat.reduceAdd, Nat.reduceSub, Nat.reduceMul, Nat.reduceLeDiff, reduceIte, reduceCtorEq, Int.lt_irrefl, Nat.reduceMod, Nat.reduceBEq, eq_self, false_and, and_false, hf, hp, Int.natCast_nonneg, hk']))
          | (refine gd_f (fun h => ?_) (fun h => ?_) <;> (try simp only [h, go_sem, Nat.reduceLT, Nat.reduceEqDiff, Nat.reduceAdd, Nat.reduceSub, Nat.reduceMul, Nat.reduceLeDiff, reduceIte, reduceCtorEq, Int.lt_irrefl, Nat.reduceMod, Nat.reduceBEq, eq_self, false_and, and_false, hf, hp, Int.natCast_nonneg, hk']))
          | refine wpA_block ?_
          | (refine wpA_cond rfl (fun h => ?_) (fun h => ?_) <;> (try (cases h; done)))
          | (refine wpA_ret (fin_pure (.inl rfl) rfl (by simp only [go_sem, Nat.reduceLT, Nat.reduceEqDiff, Nat.reduceAdd, Nat.reduceSub, Nat.reduceMul, Nat.reduceLeDiff, reduceIte, reduceCtorEq, Int.lt_irrefl, Nat.reduceMod, Nat.reduceBEq, eq_self, false_and, and_false, hf, hp, Int.natCast_nonneg, hk']; rfl) ?_ (hW _)); (try simp only [go_sem, Nat.reduceLT, Nat.reduceEqDiff, Nat.reduceAdd, Nat.reduceSub, Nat.reduceMul, Nat.reduceLeDiff, reduceIte, reduceCtorEq, Int.lt_irrefl, Nat.reduceMod, Nat.reduceBEq, eq_self, false_and, and_false, hf, hp, Int.natCast_nonneg, hk']))
          | (refine wpA_ret (fin_pureM (.inl rfl) (by simp only [go_sem, Nat.reduceLT, Nat.reduceEqDiff, Nat.reduceAdd, Nat.reduceSub, Nat.reduceMul, Nat.reduceLeDiff, reduceIte, reduceCtorEq, Int.lt_irrefl, Nat.reduceMod, Nat.reduceBEq, eq_self, false_and, and_false]) (by simp only [go_sem, Nat.reduceLT, Nat.reduceEqDiff, Nat.reduceAdd, Nat.reduceSub, Nat.reduceMul, Nat.reduceLeDiff, reduceIte, reduceCtorEq, Int.lt_irrefl, Nat.reduceMod, Nat.reduceBEq, eq_self, false_and, and_false, hf, hp, Int.natCast_nonneg, hk']; rfl) ?_ (hW _)); (try simp only [go_sem, Nat.reduceLT, Nat.reduceEqDiff, Nat.reduceAdd, Nat.reduceSub, Nat.reduceMul, Nat.reduceLeDiff, reduceIte, reduceCtorEq, Int.lt_irrefl, Nat.reduceMod, Nat.reduceBEq, eq_self, false_and, and_false, hf, hp, Int.natCast_nonneg, hk']))
          | fail)
        · rename_i h0
          refine ⟨wk_to (wk_kp [1, 2, 3, 4, 5, 11, 12, 13, 14] [0] (by simp) (by simp) rfl) (by simp only [go_sem, Nat.reduceLT, Nat.reduceEqDiff, Nat.reduceAdd, Nat.reduceSub, Nat.reduceMul, Nat.reduceLeDiff, reduceIte, reduceCtorEq, Int.lt_irrefl, Nat.reduceMod, Nat.reduceBEq, eq_self, false_and, and_false, hW _,  hwk, e, h, h0, Bool.or_true]), ?_⟩
          trivial
        · rename_i h0
          refine ⟨wk_to (wk_kp [1, 2, 3, 4, 5, 11, 12, 13, 14] [0] (by simp) (by simp) rfl) (by simp only [go_sem, Nat.reduceLT, Nat.reduceEqDiff, Nat.reduceAdd, Nat.reduceSub, Nat.reduceMul, Nat.reduceLeDiff, reduceIte, reduceCtorEq, Int.lt_irrefl, Nat.reduceMod, Nat.reduceBEq, eq_self, false_and, and_false, hW _,  hwk, e, h, h0, Bool.or_false, Bool.and_false]), ?_⟩
          trivial
        · rename_i h0
          refine ⟨wk_to (wk_kp [1, 2, 3, 4, 5, 11, 12, 13, 14] [0] (by simp) (by simp) rfl) (by simp only [go_sem, Nat.reduceLT, Nat.reduceEqDiff, Nat.reduceAdd, Nat.reduceSub, Nat.reduceMul, Nat.reduceLeDiff, reduceIte, reduceCtorEq, Int.lt_irrefl, Nat.reduceMod, Nat.reduceBEq, eq_self, false_and, and_false, hW _,  hwk, e, h0, Bool.or_false, Bool.false_and]), ?_⟩
          trivial
      · intro _
        clear h
        repeat' (first
          | refine wpA_seq ?_
          | refine wpA_skip ?_
          | (refine wpA_exit ?_)
          | (refine hK _ _ ?_; clear hK K)
          | (refine hK _ _ rfl ?_; clear hK K)
          | (refine wpA_reg hT hE fun K hK => ?_; simp only [go_sem, Nat.reduceLT, Nat.reduceEqDiff, Nat.reduceAdd, Nat.reduceSub, Nat.reduceMul, Nat.reduceLeDiff, reduceIte, reduceCtorEq, Int.lt_irrefl, Nat.reduceMod, Nat.reduceBEq, eq_self, false_and, and_false, hf, Int.natCast_nonneg, List.take_length])
          | (refine wpA_drw hT hE hmix (by kernel_rfl) fun K hK => ?_; simp only [go_sem, Nat.reduceLT, Nat.reduceEqDiff, Nat.reduceAdd, Nat.reduceSub, Nat.reduceMul, Nat.reduceLeDiff, reduceIte, reduceCtorEq, Int.lt_irrefl, Nat.reduceMod, Nat.reduceBEq, eq_self, false_and, and_false, hf, Int.natCast_nonneg, List.take_length])
          | (refine gd_t (fun h => ?_) (fun h => ?_) <;> (try simp only [h, go_sem, Nat.reduceLT, Nat.reduceEqDiff, Nat.reduceAdd, Nat.reduceSub, Nat.reduceMul, Nat.reduceLeDiff, reduceIte, reduceCtorEq, Int.lt_irrefl, Nat.reduceMod, Nat.reduceBEq, eq_self, false_and, and_false, hf, Int.natCast_nonneg, List.take_length]))
          | (refine gd_f (fun h => ?_) (fun h => ?_) <;> (try simp only [h, go_sem, Nat.reduceLT, Nat.reduceEqDiff, Nat.reduceAdd, Nat.reduceSub, Nat.reduceMul, Nat.reduceLeDiff, reduceIte, reduceCtorEq, Int.lt_irrefl, Nat.reduceMod, Nat.reduceBEq, eq_self, false_and, and_false, hf, Int.natCast_nonneg, List.take_length]))
          | refine wpA_block ?_
          | (refine wpA_cond rfl (fun h => ?_) (fun h => ?_) <;> (try (cases h; done)))
          | (refine wpA_ret (fin_pure (.inl rfl) rfl (by simp only [go_sem, Nat.reduceLT, Nat.reduceEqDiff, Nat.reduceAdd, Nat.reduceSub, Nat.reduceMul, Nat.reduceLeDiff, reduceIte, reduceCtorEq, Int.lt_irrefl, Nat.reduceMod, Nat.reduceBEq, eq_self, false_and, and_false, hf, Int.natCast_nonneg, List.take_length]; rfl) ?_ (hW _)); (try simp only [go_sem, Nat.reduceLT, Nat.reduceEqDiff, Nat.reduceAdd, Nat.reduceSub, Nat.reduceMul, Nat.reduceLeDiff, reduceIte, reduceCtorEq, Int.lt_irrefl, Nat.reduceMod, Nat.reduceBEq, eq_self, false_and, and_false, hf, Int.natCast_nonneg, List.take_length]))
          | (refine wpA_ret (fin_pureM (.inl rfl) (by simp only [go_sem, Nat.reduceLT, Nat.reduceEqDiff, Nat.reduceAdd, Nat.reduceSub, Nat.reduceMul, Nat.reduceLeDiff, reduceIte, reduceCtorEq, Int.lt_irrefl, Nat.reduceMod, Nat.reduceBEq, eq_self, false_and, and_false]) (by simp only [go_sem, Nat.reduceLT, Nat.reduceEqDiff, Nat.reduceAdd, Nat.reduceSub, Nat.reduceMul, Nat.reduceLeDiff, reduceIte, reduceCtorEq, Int.lt_irrefl, Nat.reduceMod, Nat.reduceBEq, eq_self, false_and, and_false, hf, Int.natCast_nonneg, List.take_length]; rfl) ?_ (hW _)); (try simp only [go_sem, Nat.reduceLT, Nat.reduceEqDiff, Nat.reduceAdd, Nat.reduceSub, Nat.reduceMul, Nat.reduceLeDiff, reduceIte, reduceCtorEq, Int.lt_irrefl, Nat.reduceMod, Nat.reduceBEq, eq_self, false_and, and_false, hf, Int.natCast_nonneg, List.take_length]))
          | (refine ⟨_, [], [], PureE.call (Until_spec t i (by omega) (by omega)) (by first | (simp; done) | (simp [hpF_add, hpF_lo]; done) | exact need_hp htop hn | exact need_hp2 htop hn), ?_⟩; (try simp only [go_sem, Nat.reduceLT, Nat.reduceEqDiff, Nat.reduceAdd, Nat.reduceSub, Nat.reduceMul, Nat.reduceLeDiff, reduceIte, reduceCtorEq, Int.lt_irrefl, Nat.reduceMod, Nat.reduceBEq, eq_self, false_and, and_false, hf, Int.natCast_nonneg, List.take_length]))
          | (refine ⟨_, _, [], PureE.toS (Until_spec t i (by omega) (by omega)), by first | (simp; done) | (simp [hpF_add, hpF_lo]; done) | exact need_hp htop hn | exact need_hp2 htop hn, by simp, ?_⟩; (try simp only [go_sem, Nat.reduceLT, Nat.reduceEqDiff, Nat.reduceAdd, Nat.reduceSub, Nat.reduceMul, Nat.reduceLeDiff, reduceIte, reduceCtorEq, Int.lt_irrefl, Nat.reduceMod, Nat.reduceBEq, eq_self, false_and, and_false, hf, Int.natCast_nonneg, List.take_length]))
          | fail)
        all_goals
          refine ⟨wk_to (wk_kp [1, 2, 3, 4, 5, 11, 12] [0] (by simp) (by simp) rfl) ?_, trivial⟩
          simp only [go_sem, Nat.reduceLT, Nat.reduceEqDiff, Nat.reduceAdd, Nat.reduceSub, Nat.reduceMul, Nat.reduceLeDiff, reduceIte, reduceCtorEq, Int.lt_irrefl, Nat.reduceMod, Nat.reduceBEq, eq_self, false_and, and_false, hW _, hw]
          refine congrArg (fun x => ({ tm := [(1, .v (.int .i64 v)), (2, .v (.int .i64 c)), (3, .v (.int .i64 a)), (4, .v (.int .i64 z)), (5, .ptr (b + 0) 0), (11, .v (.int .i64 x)), (12, .v (.int .i64 (i + 1 : Nat)))], F := F, L := [.blk 24 [.sl (t.frames.map aFrame), .v (.int .i64 t.fin)]], ds := [] } : AS)) ?_
          have hS : sumTo (shareL (refPred v c) t a z) (i + 1) = sumTo (shareL (refPred v c) t a z) i + shareL (refPred v c) t a z i := rfl
          have hsh : shareL (refPred v c) t a z i = if (g0 || refG1 c f.puts) = true then mxI (mnI (endT t i) z - mxI f.time a) 0 else 0 := by
            rw [shareL, hf, hg0]; rfl
          rw [mxI_max, mnI_min, mxI_max] at hsh
          have b1 := right_get hr hf
          have b2 := right_end hr i
          have b3 := timeOK_iff.1 ha
          have b4 := timeOK_iff.1 hz
          have b5 := sumTo_bd (shareL_bd (g := refPred v c) hr ha hz) i
          have b8 : (i : Int) * 1125899906842624 ≤ 4000 * 1125899906842624 := Int.mul_le_mul_of_nonneg_right (by omega) (by omega)
          by_cases hg : (g0 || refG1 c f.puts) = true
          · rw [if_pos hg] at hsh
            simp only [decide_eq_true_eq, decide_eq_false_iff_not] at *
            first
              | omega
              | (simp only [i64_def]; omega)
              | (exfalso; simp_all; done)
          · rw [if_neg hg] at hsh
            simp only [decide_eq_true_eq, decide_eq_false_iff_not] at *
            first
              | omega
              | (exfalso; simp_all; done)
  · intro _
    repeat' (first
      | refine wpA_seq ?_
      | refine wpA_skip ?_
      | (refine wpA_exit ?_)
      | (refine hK _ _ ?_; clear hK K)
      | (refine hK _ _ rfl ?_; clear hK K)
      | (refine wpA_reg hT hE fun K hK => ?_; simp only [go_sem, Nat.reduceLT, Nat.reduceEqDiff, Nat.reduceAdd, Nat.reduceSub, Nat.reduceMul, Nat.reduceLeDiff, reduceIte, reduceCtorEq, Int.lt_irrefl, Nat.reduceMod, Nat.reduceBEq, eq_self, false_and, and_false])
      | (refine wpA_drw hT hE hmix (by kernel_rfl) fun K hK => ?_; simp only [go_sem, Nat.reduceLT, Nat.reduceEqDiff, Nat.reduceAdd, Nat.reduceSub, Nat.reduceMul, Nat.reduceLeDiff, reduceIte, reduceCtorEq, Int.lt_irrefl, Nat.reduceMod, Nat.reduceBEq, eq_self, false_and, and_false])
      | (refine gd_t (fun h => ?_) (fun h => ?_) <;> (try simp only [h, go_sem, Nat.reduceLT, Nat.reduceEqDiff, Nat.reduceAdd, Nat.reduceSub, Nat.reduceMul, Nat.reduceLeDiff, reduceIte, reduceCtorEq, Int.lt_irrefl, Nat.reduceMod, Nat.reduceBEq, eq_self, false_and, and_false]))
      | (refine gd_f (fun h => ?_) (fun h => ?_) <;> (try simp only [h, go_sem, Nat.reduceLT, Nat.reduceEqDiff, Nat.reduceAdd, Nat.reduceSub, Nat.reduceMul, Nat.reduceLeDiff, reduceIte, reduceCtorEq, Int.lt_irrefl, Nat.reduceMod, Nat.reduceBEq, eq_self, false_and, and_false]))
      | refine wpA_block ?_
      | (refine wpA_cond rfl (fun h => ?_) (fun h => ?_) <;> (try (cases h; done)))
      | (refine wpA_ret (fin_pure (.inl rfl) rfl (by simp only [go_sem, Nat.reduceLT, Nat.reduceEqDiff, Nat.reduceAdd, Nat.reduceSub, Nat.reduceMul, Nat.reduceLeDiff, reduceIte, reduceCtorEq, Int.lt_irrefl, Nat.reduceMod, Nat.reduceBEq, eq_self, false_and, and_false]; rfl) ?_ (hW _)); (try simp only [go_sem, Nat.reduceLT, Nat.reduceEqDiff, Nat.reduceAdd, Nat.reduceSub, Nat.reduceMul, Nat.reduceLeDiff, reduceIte, reduceCtorEq, Int.lt_irrefl, Nat.reduceMod, Nat.reduceBEq, eq_self, false_and, and_false]))
      | (refine wpA_ret (fin_pureM (.inl rfl) (by simp only [go_sem, Nat.reduceLT, Nat.reduceEqDiff, Nat.reduceAdd, Nat.reduceSub, Nat.reduceMul, Nat.reduceLeDiff, reduceIte, reduceCtorEq, Int.lt_irrefl, Nat.reduceMod, Nat.reduceBEq, eq_self, false_and, and_false]) (by simp only [go_sem, Nat.reduceLT, Nat.reduceEqDiff, Nat.reduceAdd, Nat.reduceSub, Nat.reduceMul, Nat.reduceLeDiff, reduceIte, reduceCtorEq, Int.lt_irrefl, Nat.reduceMod, Nat.reduceBEq, eq_self, false_and, and_false]; rfl) ?_ (hW _)); (try simp only [go_sem, Nat.reduceLT, Nat.reduceEqDiff, Nat.reduceAdd, Nat.reduceSub, Nat.reduceMul, Nat.reduceLeDiff, reduceIte, reduceCtorEq, Int.lt_irrefl, Nat.reduceMod, Nat.reduceBEq, eq_self, false_and, and_false]))
      | fail)
end Go.Proofs.Ythlmfkeeneeaoaa

namespace Go.Proofs.Ythlmfkeeneeaoaa
open Go Go.Av

theorem subL_aSpan (f : AVal → AVal) (l : List Span) : subL f (l.map aSpan) = l.map aSpan := by
  rw [subL_map, List.map_map]; exact List.map_congr_left fun _ _ => rfl
attribute [go_sem] subL_aSpan aSpan

/-- A span more, or the last one longer. -/
def addSpan (out : List Span) (c a e : Int) : List Span := match out[out.length - 1]? with
  | some s => if (s.cpu == c && s.till == a) = true then out.set (out.length - 1) ⟨s.cpu, s.since, e⟩ else out ++ [⟨c, a, e⟩]
  | none => out ++ [⟨c, a, e⟩]
def spanStep (v a e : Int) (out : List Span) (p : Put) : List Span := if (p.vcpu != v || a == e) = true then out else addSpan out p.cpu a e
def timeAt (t : Trace) (i : Nat) : Int := match t.frames[i]? with | some f => f.time | none => 0
def spansTo (t : Trace) (v : Int) : Nat → List Span
  | 0 => []
  | i + 1 => (putsAt t i).foldl (spanStep v (timeAt t i) (endT t i)) (spansTo t v i)
def spansF (t : Trace) (v : Int) : List Span := if right t = true then spansTo t v t.frames.length else []
theorem addSpan_len (out : List Span) (c a e : Int) : (addSpan out c a e).length ≤ out.length + 1 := by
  unfold addSpan; split
  · split <;> simp
  · simp
theorem spanStep_len (v a e : Int) (out : List Span) (p : Put) : (spanStep v a e out p).length ≤ out.length + 1 := by
  unfold spanStep; split
  · omega
  · exact addSpan_len _ _ _ _
theorem fold_len (v a e : Int) : ∀ (l : List Put) (out : List Span), (l.foldl (spanStep v a e) out).length ≤ out.length + l.length
  | [], out => by simp
  | p :: l, out => by
    have h1 := fold_len v a e l (spanStep v a e out p)
    have h2 := spanStep_len v a e out p
    simp only [List.foldl_cons, List.length_cons]; omega
theorem spansTo_len {t : Trace} (hr : right t = true) (v : Int) : ∀ i, (spansTo t v i).length ≤ 8 * i
  | 0 => by simp [spansTo]
  | i + 1 => by
    have h1 := spansTo_len hr v i
    have h2 := fold_len v (timeAt t i) (endT t i) (putsAt t i) (spansTo t v i)
    have h3 : (putsAt t i).length ≤ 8 := by
      unfold putsAt
      split
      · rename_i f hf; exact pic_len8 (right_get hr hf).2.2.2
      · simp
    simp only [spansTo]; omega

theorem Spans_spec (t : Trace) (v : Int) : PureE Try.prog 20 [aTrace t, .v (.int .i64 v)] [] (.sl ((spansF t v).map aSpan)) := by
  intro F b hn
  refine callE_of hT (fn := Try.f20) rfl rfl rfl (by simp [fnt]) (by simp) fun htop hW => ?_
  have herr : (errT (right t) != 0) = !right t := by cases right t <;> rfl
  repeat' (first
    | (refine ⟨_, _, _, all_spec t _ _, ?_⟩; simp only [Nat.add_assoc, go_sem, Nat.reduceLT, Nat.reduceEqDiff, Nat.reduceAdd, Nat.reduceSub, Nat.reduceMul, Nat.reduceLeDiff, reduceIte, reduceCtorEq, Int.lt_irrefl, Nat.reduceMod, Nat.reduceBEq, eq_self, false_and, and_false])
    | refine wpA_seq ?_
    | refine wpA_skip ?_
    | (refine wpA_exit ?_)
    | (refine hK _ _ ?_; clear hK K)
    | (refine hK _ _ rfl ?_; clear hK K)
    | (refine wpA_reg hT hE fun K hK => ?_; simp only [go_sem, Nat.reduceLT, Nat.reduceEqDiff, Nat.reduceAdd, Nat.reduceSub, Nat.reduceMul, Nat.reduceLeDiff, reduceIte, reduceCtorEq, Int.lt_irrefl, Nat.reduceMod, Nat.reduceBEq, eq_self, false_and, and_false, herr])
    | (refine wpA_drw hT hE hmix (by kernel_rfl) fun K hK => ?_; simp only [go_sem, Nat.reduceLT, Nat.reduceEqDiff, Nat.reduceAdd, Nat.reduceSub, Nat.reduceMul, Nat.reduceLeDiff, reduceIte, reduceCtorEq, Int.lt_irrefl, Nat.reduceMod, Nat.reduceBEq, eq_self, false_and, and_false, herr])
    | (refine gd_t (fun h => ?_) (fun h => ?_) <;> (try simp only [h, go_sem, Nat.reduceLT, Nat.reduceEqDiff, Nat.reduceAdd, Nat.reduceSub, Nat.reduceMul, Nat.reduceLeDiff, reduceIte, reduceCtorEq, Int.lt_irrefl, Nat.reduceMod, Nat.reduceBEq, eq_self, false_and, and_false, herr]))
    | (refine gd_f (fun h => ?_) (fun h => ?_) <;> (try simp only [h, go_sem, Nat.reduceLT, Nat.reduceEqDiff, Nat.reduceAdd, Nat.reduceSub, Nat.reduceMul, Nat.reduceLeDiff, reduceIte, reduceCtorEq, Int.lt_irrefl, Nat.reduceMod, Nat.reduceBEq, eq_self, false_and, and_false, herr]))
    | refine wpA_block ?_
    | (refine wpA_cond rfl (fun h => ?_) (fun h => ?_) <;> (try (cases h; done)))
    | (refine wpA_ret (fin_pure (.inl rfl) rfl (by simp only [go_sem, Nat.reduceLT, Nat.reduceEqDiff, Nat.reduceAdd, Nat.reduceSub, Nat.reduceMul, Nat.reduceLeDiff, reduceIte, reduceCtorEq, Int.lt_irrefl, Nat.reduceMod, Nat.reduceBEq, eq_self, false_and, and_false, herr]; rfl) ?_ (hW _)); (try simp only [go_sem, Nat.reduceLT, Nat.reduceEqDiff, Nat.reduceAdd, Nat.reduceSub, Nat.reduceMul, Nat.reduceLeDiff, reduceIte, reduceCtorEq, Int.lt_irrefl, Nat.reduceMod, Nat.reduceBEq, eq_self, false_and, and_false, herr]))
    | (refine wpA_ret (fin_pureM (.inl rfl) (by simp only [go_sem, Nat.reduceLT, Nat.reduceEqDiff, Nat.reduceAdd, Nat.reduceSub, Nat.reduceMul, Nat.reduceLeDiff, reduceIte, reduceCtorEq, Int.lt_irrefl, Nat.reduceMod, Nat.reduceBEq, eq_self, false_and, and_false]) (by simp only [go_sem, Nat.reduceLT, Nat.reduceEqDiff, Nat.reduceAdd, Nat.reduceSub, Nat.reduceMul, Nat.reduceLeDiff, reduceIte, reduceCtorEq, Int.lt_irrefl, Nat.reduceMod, Nat.reduceBEq, eq_self, false_and, and_false, herr]; rfl) ?_ (hW _)); (try simp only [go_sem, Nat.reduceLT, Nat.reduceEqDiff, Nat.reduceAdd, Nat.reduceSub, Nat.reduceMul, Nat.reduceLeDiff, reduceIte, reduceCtorEq, Int.lt_irrefl, Nat.reduceMod, Nat.reduceBEq, eq_self, false_and, and_false, herr]))
    | (refine ⟨_, [], [], PureE.call (Check_spec t) (by first | (simp; done) | (simp [hpF_add, hpF_lo]; done) | exact need_hp htop hn | exact need_hp2 htop hn), ?_⟩; (try simp only [go_sem, Nat.reduceLT, Nat.reduceEqDiff, Nat.reduceAdd, Nat.reduceSub, Nat.reduceMul, Nat.reduceLeDiff, reduceIte, reduceCtorEq, Int.lt_irrefl, Nat.reduceMod, Nat.reduceBEq, eq_self, false_and, and_false, herr]))
    | (refine ⟨_, _, [], PureE.toS (Check_spec t), by first | (simp; done) | (simp [hpF_add, hpF_lo]; done) | exact need_hp htop hn | exact need_hp2 htop hn, by simp, ?_⟩; (try simp only [go_sem, Nat.reduceLT, Nat.reduceEqDiff, Nat.reduceAdd, Nat.reduceSub, Nat.reduceMul, Nat.reduceLeDiff, reduceIte, reduceCtorEq, Int.lt_irrefl, Nat.reduceMod, Nat.reduceBEq, eq_self, false_and, and_false, herr]))
    | fail)
  · have hr : right t = false := by simpa using h
    simp [spansF, hr]
  have hr : right t = true := by simpa using h
  have hl4 := right_len hr
  refine wpA_kp [3, 5, 15] [1, 2, 3] (by simp) (by simp) rfl fun K hK => ?_
  try simp only [go_sem, Nat.reduceLT, Nat.reduceEqDiff, Nat.reduceAdd, Nat.reduceSub, Nat.reduceMul, Nat.reduceLeDiff, reduceIte, reduceCtorEq, Int.lt_irrefl, Nat.reduceMod, Nat.reduceBEq, eq_self, false_and, and_false, hW _]
  refine hK _ ?_; clear hK K
  refine wpA_rgF (gf := 48) (caps := [.ptr (b + 2) 0]) 5 rfl t.frames.length (ysT t)
    (fun i => [.blk 3 [.v (.int .i64 v)], .blk 39 [.own (b + 5 + 0) (spansTo t v i).length], .blk 24 [.sl (t.frames.map aFrame), .v (.int .i64 t.fin)]]) (fun i => .row 42 3 ((spansTo t v i).map aSpan)) (fun i => True) trivial rfl
    (by simp only [go_sem, Nat.reduceLT, Nat.reduceEqDiff, Nat.reduceAdd, Nat.reduceSub, Nat.reduceMul, Nat.reduceLeDiff, reduceIte, reduceCtorEq, Int.lt_irrefl, Nat.reduceMod, Nat.reduceBEq, eq_self, false_and, and_false]) (fun _ => rfl) (by simp [fnt]) ?_ (fun rD rR => wk_nilF (m := 5) (L := [.blk 3 [.v (.int .i64 v)], .blk 39 [.v (.slice none 0 0)], .blk 24 [.sl (t.frames.map aFrame), .v (.int .i64 t.fin)], rD, rR]) htop 1 0 42 3 rfl rfl rfl) (fun rD rR X => all1_iter t (b + 2) _ _ _ _ X (fun i => by simp only [List.cons_append, List.nil_append, go_sem, Nat.reduceLT, Nat.reduceEqDiff, Nat.reduceAdd, Nat.reduceSub, Nat.reduceMul, Nat.reduceLeDiff, reduceIte, reduceCtorEq, Int.lt_irrefl, Nat.reduceMod, Nat.reduceBEq, eq_self, false_and, and_false]) (fun i => topF_hp (by simp))) ?_ ?_
  · intro i hi
    obtain ⟨f, hf, _, _⟩ := get_of_lt hi
    rw [ysT_eq hf]
    refine ⟨rfl, by simp only [go_sem, Nat.reduceLT, Nat.reduceEqDiff, Nat.reduceAdd, Nat.reduceSub, Nat.reduceMul, Nat.reduceLeDiff, reduceIte, reduceCtorEq, Int.lt_irrefl, Nat.reduceMod, Nat.reduceBEq, eq_self, false_and, and_false]⟩
  · intro i hi
    obtain ⟨f, hf, _, _⟩ := get_of_lt hi
    rw [ysT_eq hf]
    intro hI rR
    have hlen8 := pic_len8 (right_get hr hf).2.2.2
    have hsp : ∀ k, ((f.puts.take k).foldl (spanStep v f.time (endT t i)) (spansTo t v i)).length ≤ 8 * i + 8 := fun k => by
      have h1 := fold_len v f.time (endT t i) (f.puts.take k) (spansTo t v i)
      have h2 := spansTo_len hr v i
      have h3 : (f.puts.take k).length ≤ f.puts.length := by simp; omega
      omega
    obtain ⟨o, ho⟩ : ∃ o : Nat → List Span, o = fun k => (f.puts.take k).foldl (spanStep v f.time (endT t i)) (spansTo t v i) := ⟨_, rfl⟩
    have ho0 : spansTo t v i = o 0 := by rw [ho]; rfl
    have hoS : ∀ k p, f.puts[k]? = some p → o (k + 1) = spanStep v f.time (endT t i) (o k) p := fun k p hp => by
      rw [ho]; simp only
      rw [List.take_add_one, hp]; simp
    have hon : spansTo t v (i + 1) = o f.puts.length := by
      rw [ho]; simp only
      rw [List.take_length, spansTo]; simp [putsAt, timeAt, hf]
    have hol : ∀ k, (o k).length ≤ 8 * i + 8 := fun k => by rw [ho]; exact hsp k
    clear ho hsp
    rw [ho0]
    refine wpA_K fun K hK => ?_
    simp only [go_sem, Nat.reduceLT, Nat.reduceEqDiff, Nat.reduceAdd, Nat.reduceSub, Nat.reduceMul, Nat.reduceLeDiff, reduceIte, reduceCtorEq, Int.lt_irrefl, Nat.reduceMod, Nat.reduceBEq, eq_self, false_and, and_false, List.cons_append, List.nil_append]
    refine hK _ ?_; clear hK K
    repeat' (first
      | refine wpA_seq ?_
      | refine wpA_skip ?_
      | (refine wpA_exit ?_)
      | (refine hK _ _ ?_; clear hK K)
      | (refine hK _ _ rfl ?_; clear hK K)
      | (refine wpA_reg hT hE fun K hK => ?_; simp only [go_sem, Nat.reduceLT, Nat.reduceEqDiff, Nat.reduceAdd, Nat.reduceSub, Nat.reduceMul, Nat.reduceLeDiff, reduceIte, reduceCtorEq, Int.lt_irrefl, Nat.reduceMod, Nat.reduceBEq, eq_self, false_and, and_false])
      | (refine wpA_drw hT hE hmix (by kernel_rfl) fun K hK => ?_; simp only [go_sem, Nat.reduceLT, Nat.reduceEqDiff, Nat.reduceAdd, Nat.reduceSub, Nat.reduceMul, Nat.reduceLeDiff, reduceIte, reduceCtorEq, Int.lt_irrefl, Nat.reduceMod, Nat.reduceBEq, eq_self, false_and, and_false])
      | (refine gd_t (fun h => ?_) (fun h => ?_) <;> (try simp only [h, go_sem, Nat.reduceLT, Nat.reduceEqDiff, Nat.reduceAdd, Nat.reduceSub, Nat.reduceMul, Nat.reduceLeDiff, reduceIte, reduceCtorEq, Int.lt_irrefl, Nat.reduceMod, Nat.reduceBEq, eq_self, false_and, and_false]))
      | (refine gd_f (fun h => ?_) (fun h => ?_) <;> (try simp only [h, go_sem, Nat.reduceLT, Nat.reduceEqDiff, Nat.reduceAdd, Nat.reduceSub, Nat.reduceMul, Nat.reduceLeDiff, reduceIte, reduceCtorEq, Int.lt_irrefl, Nat.reduceMod, Nat.reduceBEq, eq_self, false_and, and_false]))
      | refine wpA_block ?_
      | (refine wpA_cond rfl (fun h => ?_) (fun h => ?_) <;> (try (cases h; done)))
      | (refine wpA_ret (fin_pure (.inl rfl) rfl (by simp only [go_sem, Nat.reduceLT, Nat.reduceEqDiff, Nat.reduceAdd, Nat.reduceSub, Nat.reduceMul, Nat.reduceLeDiff, reduceIte, reduceCtorEq, Int.lt_irrefl, Nat.reduceMod, Nat.reduceBEq, eq_self, false_and, and_false]; rfl) ?_ (hW _)); (try simp only [go_sem, Nat.reduceLT, Nat.reduceEqDiff, Nat.reduceAdd, Nat.reduceSub, Nat.reduceMul, Nat.reduceLeDiff, reduceIte, reduceCtorEq, Int.lt_irrefl, Nat.reduceMod, Nat.reduceBEq, eq_self, false_and, and_false]))
      | (refine wpA_ret (fin_pureM (.inl rfl) (by simp only [go_sem, Nat.reduceLT, Nat.reduceEqDiff, Nat.reduceAdd, Nat.reduceSub, Nat.reduceMul, Nat.reduceLeDiff, reduceIte, reduceCtorEq, Int.lt_irrefl, Nat.reduceMod, Nat.reduceBEq, eq_self, false_and, and_false]) (by simp only [go_sem, Nat.reduceLT, Nat.reduceEqDiff, Nat.reduceAdd, Nat.reduceSub, Nat.reduceMul, Nat.reduceLeDiff, reduceIte, reduceCtorEq, Int.lt_irrefl, Nat.reduceMod, Nat.reduceBEq, eq_self, false_and, and_false]; rfl) ?_ (hW _)); (try simp only [go_sem, Nat.reduceLT, Nat.reduceEqDiff, Nat.reduceAdd, Nat.reduceSub, Nat.reduceMul, Nat.reduceLeDiff, reduceIte, reduceCtorEq, Int.lt_irrefl, Nat.reduceMod, Nat.reduceBEq, eq_self, false_and, and_false]))
      | fail)
    refine ⟨rfl, rfl, rfl, fun rB hrB => ?_⟩
    refine wpA_K fun K hK => ?_
    simp only [go_sem, Nat.reduceLT, Nat.reduceEqDiff, Nat.reduceAdd, Nat.reduceSub, Nat.reduceMul, Nat.reduceLeDiff, reduceIte, reduceCtorEq, Int.lt_irrefl, Nat.reduceMod, Nat.reduceBEq, eq_self, false_and, and_false, List.cons_append, List.nil_append]
    refine hK _ ?_; clear hK K
    repeat' (first
      | refine wpA_seq ?_
      | refine wpA_skip ?_
      | (refine wpA_exit ?_)
      | (refine hK _ _ ?_; clear hK K)
      | (refine hK _ _ rfl ?_; clear hK K)
      | (refine wpA_reg hT hE fun K hK => ?_; simp only [go_sem, Nat.reduceLT, Nat.reduceEqDiff, Nat.reduceAdd, Nat.reduceSub, Nat.reduceMul, Nat.reduceLeDiff, reduceIte, reduceCtorEq, Int.lt_irrefl, Nat.reduceMod, Nat.reduceBEq, eq_self, false_and, and_false])
      | (refine wpA_drw hT hE hmix (by kernel_rfl) fun K hK => ?_; simp only [go_sem, Nat.reduceLT, Nat.reduceEqDiff, Nat.reduceAdd, Nat.reduceSub, Nat.reduceMul, Nat.reduceLeDiff, reduceIte, reduceCtorEq, Int.lt_irrefl, Nat.reduceMod, Nat.reduceBEq, eq_self, false_and, and_false])
      | (refine gd_t (fun h => ?_) (fun h => ?_) <;> (try simp only [h, go_sem, Nat.reduceLT, Nat.reduceEqDiff, Nat.reduceAdd, Nat.reduceSub, Nat.reduceMul, Nat.reduceLeDiff, reduceIte, reduceCtorEq, Int.lt_irrefl, Nat.reduceMod, Nat.reduceBEq, eq_self, false_and, and_false]))
      | (refine gd_f (fun h => ?_) (fun h => ?_) <;> (try simp only [h, go_sem, Nat.reduceLT, Nat.reduceEqDiff, Nat.reduceAdd, Nat.reduceSub, Nat.reduceMul, Nat.reduceLeDiff, reduceIte, reduceCtorEq, Int.lt_irrefl, Nat.reduceMod, Nat.reduceBEq, eq_self, false_and, and_false]))
      | refine wpA_block ?_
      | (refine wpA_cond rfl (fun h => ?_) (fun h => ?_) <;> (try (cases h; done)))
      | (refine wpA_ret (fin_pure (.inl rfl) rfl (by simp only [go_sem, Nat.reduceLT, Nat.reduceEqDiff, Nat.reduceAdd, Nat.reduceSub, Nat.reduceMul, Nat.reduceLeDiff, reduceIte, reduceCtorEq, Int.lt_irrefl, Nat.reduceMod, Nat.reduceBEq, eq_self, false_and, and_false]; rfl) ?_ (hW _)); (try simp only [go_sem, Nat.reduceLT, Nat.reduceEqDiff, Nat.reduceAdd, Nat.reduceSub, Nat.reduceMul, Nat.reduceLeDiff, reduceIte, reduceCtorEq, Int.lt_irrefl, Nat.reduceMod, Nat.reduceBEq, eq_self, false_and, and_false]))
      | (refine wpA_ret (fin_pureM (.inl rfl) (by simp only [go_sem, Nat.reduceLT, Nat.reduceEqDiff, Nat.reduceAdd, Nat.reduceSub, Nat.reduceMul, Nat.reduceLeDiff, reduceIte, reduceCtorEq, Int.lt_irrefl, Nat.reduceMod, Nat.reduceBEq, eq_self, false_and, and_false]) (by simp only [go_sem, Nat.reduceLT, Nat.reduceEqDiff, Nat.reduceAdd, Nat.reduceSub, Nat.reduceMul, Nat.reduceLeDiff, reduceIte, reduceCtorEq, Int.lt_irrefl, Nat.reduceMod, Nat.reduceBEq, eq_self, false_and, and_false]; rfl) ?_ (hW _)); (try simp only [go_sem, Nat.reduceLT, Nat.reduceEqDiff, Nat.reduceAdd, Nat.reduceSub, Nat.reduceMul, Nat.reduceLeDiff, reduceIte, reduceCtorEq, Int.lt_irrefl, Nat.reduceMod, Nat.reduceBEq, eq_self, false_and, and_false]))
      | fail)
    refine wpA_kp [3, 5, 6, 7, 19, 20, 21] [0, 1] (by simp) (by simp) rfl fun K hK => ?_
    try simp only [go_sem, Nat.reduceLT, Nat.reduceEqDiff, Nat.reduceAdd, Nat.reduceSub, Nat.reduceMul, Nat.reduceLeDiff, reduceIte, reduceCtorEq, Int.lt_irrefl, Nat.reduceMod, Nat.reduceBEq, eq_self, false_and, and_false, pullF_hp hW, hrB]
    refine hK _ ?_; clear hK K
    refine wpA_for f.puts.length (fun k => { tm := [(3, .ptr (b + 0) 0), (5, .ptr (b + 1) 0), (6, .ptr (b + 5 + 1) 0), (7, .v (.int .i64 (endT t i))), (19, .sl (f.puts.map aPut)), (20, .v (.int .i64 f.puts.length)), (21, .v (.int .i64 k))], F := hpF F b [.blk 3 [.v (.int .i64 v)], .blk 39 [.own (b + 5 + 0) (o k).length], .blk 24 [.sl (t.frames.map aFrame), .v (.int .i64 t.fin)], rawD, rB], L := [.row 42 3 ((o k).map aSpan), .blk 58 [.v (.int .i64 f.time), .sl (f.puts.map aPut)]], ds := [] }) (fun k => True) rfl trivial ?_ ?_
    · intro k hk _
      obtain ⟨p, hp, _, _⟩ := get_of_lt hk
      have hk' : ((k : Int) < f.puts.length) := by omega
      have hwk := wrap1 hk (by omega)
      have hstep := hoS k p hp
      have hol' := hol k
      have hb1 : ((o k).length + 1) * 24 ≤ 140737488355328 := by omega
      have hb2 : (o k).length ≤ 9223372036854775806 := by omega
      clear hoS hol ho0 hon
      rcases Nat.eq_zero_or_pos (o k).length with hz | hz
      · have hz0 : o k = [] := List.length_eq_zero_iff.1 hz
        have hz' : ¬ (((o k).length : Int) > 0) := by omega
        repeat' (first
          | refine wpA_seq ?_
          | refine wpA_skip ?_
          | (refine wpA_exit ?_)
          | (refine hK _ _ ?_; clear hK K)
          | (refine hK _ _ rfl ?_; clear hK K)
          | (refine wpA_reg hT hE fun K hK => ?_; simp only [go_sem, Nat.reduceLT, Nat.reduceEqDiff, Nat.reduceAdd, Nat.reduceSub, Nat.reduceMul, Nat.reduceLeDiff, reduceIte, reduceCtorEq, Int.lt_irrefl, Nat.reduceMod, Nat.reduceBEq, eq_self, false_and, and_false, hp, Int.natCast_nonneg, hk', hz', hb1, hb2])
          | (refine wpA_drw hT hE hmix (by kernel_rfl) fun K hK => ?_; simp only [go_sem, Nat.reduceLT, Nat.reduceEqDiff, Nat.reduceAdd, Nat.reduceSub, Nat.reduceMul, Nat.reduceLeDiff, reduceIte, reduceCtorEq, Int.lt_irrefl, Nat.reduceMod, Nat.reduceBEq, eq_self, false_and, and_false, hp, Int.natCast_nonneg, hk', hz', hb1, hb2])
          | (refine gd_t (fun h => ?_) (fun h => ?_) <;> (try simp only [h, go_sem, Nat.reduceLT, Nat.reduceEqDiff, Nat.reduceAdd, Nat.reduceSub, Nat.reduceMul, Nat.reduceLeDiff, reduceIte, reduceCtorEq, Int.lt_irrefl, Nat.reduceMod, Nat.reduceBEq, eq_self, false_and, and_false, hp, Int.natCast_nonneg, hk', hz', hb1, hb2]))
          | (refine gd_f (fun h => ?_) (fun h => ?_) <;> (try simp only [h, go_sem, Nat.reduceLT, Nat.reduceEqDiff, Nat.reduceAdd, Nat.reduceSub, Nat.reduceMul, Nat.reduceLeDiff, reduceIte, reduceCtorEq, Int.lt_irrefl, Nat.reduceMod, Nat.reduceBEq, eq_self, false_and, and_false, hp, Int.natCast_nonneg, hk', hz', hb1, hb2]))
          | refine wpA_block ?_
          | (refine wpA_cond rfl (fun h => ?_) (fun h => ?_) <;> (try (cases h; done)))
          | (refine wpA_ret (fin_pure (.inl rfl) rfl (by simp only [go_sem, Nat.reduceLT, Nat.reduceEqDiff, Nat.reduceAdd, Nat.reduceSub, Nat.reduceMul, Nat.reduceLeDiff, reduceIte, reduceCtorEq, Int.lt_irrefl, Nat.reduceMod, Nat.reduceBEq, eq_self, false_and, and_false, hp, Int.natCast_nonneg, hk', hz', hb1, hb2]; rfl) ?_ (hW _)); (try simp only [go_sem, Nat.reduceLT, Nat.reduceEqDiff, Nat.reduceAdd, Nat.reduceSub, Nat.reduceMul, Nat.reduceLeDiff, reduceIte, reduceCtorEq, Int.lt_irrefl, Nat.reduceMod, Nat.reduceBEq, eq_self, false_and, and_false, hp, Int.natCast_nonneg, hk', hz', hb1, hb2]))
          | (refine wpA_ret (fin_pureM (.inl rfl) (by simp only [go_sem, Nat.reduceLT, Nat.reduceEqDiff, Nat.reduceAdd, Nat.reduceSub, Nat.reduceMul, Nat.reduceLeDiff, reduceIte, reduceCtorEq, Int.lt_irrefl, Nat.reduceMod, Nat.reduceBEq, eq_self, false_and, and_false]) (by simp only [go_sem, Nat.reduceLT, Nat.reduceEqDiff, Nat.reduceAdd, Nat.reduceSub, Nat.reduceMul, Nat.reduceLeDiff, reduceIte, reduceCtorEq, Int.lt_irrefl, Nat.reduceMod, Nat.reduceBEq, eq_self, false_and, and_false, hp, Int.natCast_nonneg, hk', hz', hb1, hb2]; rfl) ?_ (hW _)); (try simp only [go_sem, Nat.reduceLT, Nat.reduceEqDiff, Nat.reduceAdd, Nat.reduceSub, Nat.reduceMul, Nat.reduceLeDiff, reduceIte, reduceCtorEq, Int.lt_irrefl, Nat.reduceMod, Nat.reduceBEq, eq_self, false_and, and_false, hp, Int.natCast_nonneg, hk', hz', hb1, hb2]))
          | fail)
        · have h0 : (p.vcpu != v) = true := by assumption
          have e : o (k + 1) = o k := by rw [hstep, spanStep, h0]; rfl
          refine ⟨wk_to (wk_kp [3, 5, 6, 7, 19, 20, 21] [0, 1] (by simp) (by simp) rfl) (by simp only [go_sem, Nat.reduceLT, Nat.reduceEqDiff, Nat.reduceAdd, Nat.reduceSub, Nat.reduceMul, Nat.reduceLeDiff, reduceIte, reduceCtorEq, Int.lt_irrefl, Nat.reduceMod, Nat.reduceBEq, eq_self, false_and, and_false, hW _,  pullF_hp hW, hrB, hwk, e]), ?_⟩
          trivial
        · have h0 : (f.time == endT t i) = true := by assumption
          have e : o (k + 1) = o k := by rw [hstep, spanStep, h0]; simp
          refine ⟨wk_to (wk_kp [3, 5, 6, 7, 19, 20, 21] [0, 1] (by simp) (by simp) rfl) (by simp only [go_sem, Nat.reduceLT, Nat.reduceEqDiff, Nat.reduceAdd, Nat.reduceSub, Nat.reduceMul, Nat.reduceLeDiff, reduceIte, reduceCtorEq, Int.lt_irrefl, Nat.reduceMod, Nat.reduceBEq, eq_self, false_and, and_false, hW _,  pullF_hp hW, hrB, hwk, e]), ?_⟩
          trivial
        · have h1 : (p.vcpu != v) = false := by assumption
          have h2 : (f.time == endT t i) = false := by assumption
          have e : o (k + 1) = o k ++ [⟨p.cpu, f.time, endT t i⟩] := by rw [hstep, spanStep, h1, h2, hz0]; rfl
          refine ⟨wk_to (wk_kp [3, 5, 6, 7, 19, 20, 21] [4, 1] (by simp) (by simp) rfl) (by simp only [go_sem, Nat.reduceLT, Nat.reduceEqDiff, Nat.reduceAdd, Nat.reduceSub, Nat.reduceMul, Nat.reduceLeDiff, reduceIte, reduceCtorEq, Int.lt_irrefl, Nat.reduceMod, Nat.reduceBEq, eq_self, false_and, and_false, hW _,  pullF_hp hW, hrB, hwk, e, List.map_append, List.length_append]), ?_⟩
          trivial
      · obtain ⟨s, hs, _, _⟩ := get_of_lt (l := o k) (i := (o k).length - 1) (by omega)
        have hz' : (((o k).length : Int) > 0) := by omega
        have hwz := wrapP (Nat.lt_succ_self (o k).length) hz (by omega)
        have hset : ∀ e, ((o k).map aSpan).set ((o k).length - 1) (.agg [.v (.int .i64 s.cpu), .v (.int .i64 s.since), .v (.int .i64 e)]) = ((o k).set ((o k).length - 1) ⟨s.cpu, s.since, e⟩).map aSpan := fun e => by rw [List.map_set]; rfl
        have hlt : (o k).length - 1 < (o k).length := by omega
        have hlt' : (((o k).length - 1 : Nat) : Int) < ((o k).length : Int) := by omega
        repeat' (first
          | refine wpA_seq ?_
          | refine wpA_skip ?_
          | (refine wpA_exit ?_)
          | (refine hK _ _ ?_; clear hK K)
          | (refine hK _ _ rfl ?_; clear hK K)
          | (refine wpA_reg hT hE fun K hK => ?_; simp only [go_sem, Nat.reduceLT, Nat.reduceEqDiff, Nat.reduceAdd, Nat.reduceSub, Nat.reduceMul, Nat.reduceLeDiff, reduceIte, reduceCtorEq, Int.lt_irrefl, Nat.reduceMod, Nat.reduceBEq, eq_self, false_and, and_false, hp, Int.natCast_nonneg, hk', hs, hz', hwz, hset, hb1, hb2, hlt, hlt'])
          | (refine wpA_drw hT hE hmix (by kernel_rfl) fun K hK => ?_; simp only [go_sem, Nat.reduceLT, Nat.reduceEqDiff, Nat.reduceAdd, Nat.reduceSub, Nat.reduceMul, Nat.reduceLeDiff, reduceIte, reduceCtorEq, Int.lt_irrefl, Nat.reduceMod, Nat.reduceBEq, eq_self, false_and, and_false, hp, Int.natCast_nonneg, hk', hs, hz', hwz, hset, hb1, hb2, hlt, hlt'])
          | (refine gd_t (fun h => ?_) (fun h => ?_) <;> (try simp only [h, go_sem, Nat.reduceLT, Nat.reduceEqDiff, Nat.reduceAdd, Nat.reduceSub, Nat.reduceMul, Nat.reduceLeDiff, reduceIte, reduceCtorEq, Int.lt_irrefl, Nat.reduceMod, Nat.reduceBEq, eq_self, false_and, and_false, hp, Int.natCast_nonneg, hk', hs, hz', hwz, hset, hb1, hb2, hlt, hlt']))
          | (refine gd_f (fun h => ?_) (fun h => ?_) <;> (try simp only [h, go_sem, Nat.reduceLT, Nat.reduceEqDiff, Nat.reduceAdd, Nat.reduceSub, Nat.reduceMul, Nat.reduceLeDiff, reduceIte, reduceCtorEq, Int.lt_irrefl, Nat.reduceMod, Nat.reduceBEq, eq_self, false_and, and_false, hp, Int.natCast_nonneg, hk', hs, hz', hwz, hset, hb1, hb2, hlt, hlt']))
          | refine wpA_block ?_
          | (refine wpA_cond rfl (fun h => ?_) (fun h => ?_) <;> (try (cases h; done)))
          | (refine wpA_ret (fin_pure (.inl rfl) rfl (by simp only [go_sem, Nat.reduceLT, Nat.reduceEqDiff, Nat.reduceAdd, Nat.reduceSub, Nat.reduceMul, Nat.reduceLeDiff, reduceIte, reduceCtorEq, Int.lt_irrefl, Nat.reduceMod, Nat.reduceBEq, eq_self, false_and, and_false, hp, Int.natCast_nonneg, hk', hs, hz', hwz, hset, hb1, hb2, hlt, hlt']; rfl) ?_ (hW _)); (try simp only [go_sem, Nat.reduceLT, Nat.reduceEqDiff, Nat.reduceAdd, Nat.reduceSub, Nat.reduceMul, Nat.reduceLeDiff, reduceIte, reduceCtorEq, Int.lt_irrefl, Nat.reduceMod, Nat.reduceBEq, eq_self, false_and, and_false, hp, Int.natCast_nonneg, hk', hs, hz', hwz, hset, hb1, hb2, hlt, hlt']))
          | (refine wpA_ret (fin_pureM (.inl rfl) (by simp only [go_sem, Nat.reduceLT, Nat.reduceEqDiff, Nat.reduceAdd, Nat.reduceSub, Nat.reduceMul, Nat.reduceLeDiff, reduceIte, reduceCtorEq, Int.lt_irrefl, Nat.reduceMod, Nat.reduceBEq, eq_self, false_and, and_false]) (by simp only [go_sem, Nat.reduceLT, Nat.reduceEqDiff, Nat.reduceAdd, Nat.reduceSub, Nat.reduceMul, Nat.reduceLeDiff, reduceIte, reduceCtorEq, Int.lt_irrefl, Nat.reduceMod, Nat.reduceBEq, eq_self, false_and, and_false, hp, Int.natCast_nonneg, hk', hs, hz', hwz, hset, hb1, hb2, hlt, hlt']; rfl) ?_ (hW _)); (try simp only [go_sem, Nat.reduceLT, Nat.reduceEqDiff, Nat.reduceAdd, Nat.reduceSub, Nat.reduceMul, Nat.reduceLeDiff, reduceIte, reduceCtorEq, Int.lt_irrefl, Nat.reduceMod, Nat.reduceBEq, eq_self, false_and, and_false, hp, Int.natCast_nonneg, hk', hs, hz', hwz, hset, hb1, hb2, hlt, hlt']))
          | fail)
        · have h0 : (p.vcpu != v) = true := by assumption
          have e : o (k + 1) = o k := by rw [hstep, spanStep, h0]; rfl
          refine ⟨wk_to (wk_kp [3, 5, 6, 7, 19, 20, 21] [0, 1] (by simp) (by simp) rfl) (by simp only [go_sem, Nat.reduceLT, Nat.reduceEqDiff, Nat.reduceAdd, Nat.reduceSub, Nat.reduceMul, Nat.reduceLeDiff, reduceIte, reduceCtorEq, Int.lt_irrefl, Nat.reduceMod, Nat.reduceBEq, eq_self, false_and, and_false, hW _,  pullF_hp hW, hrB, hwk, e]), ?_⟩
          trivial
        · have h0 : (f.time == endT t i) = true := by assumption
          have e : o (k + 1) = o k := by rw [hstep, spanStep, h0]; simp
          refine ⟨wk_to (wk_kp [3, 5, 6, 7, 19, 20, 21] [0, 1] (by simp) (by simp) rfl) (by simp only [go_sem, Nat.reduceLT, Nat.reduceEqDiff, Nat.reduceAdd, Nat.reduceSub, Nat.reduceMul, Nat.reduceLeDiff, reduceIte, reduceCtorEq, Int.lt_irrefl, Nat.reduceMod, Nat.reduceBEq, eq_self, false_and, and_false, hW _,  pullF_hp hW, hrB, hwk, e]), ?_⟩
          trivial
        · have h1 : (p.vcpu != v) = false := by assumption
          have h2 : (f.time == endT t i) = false := by assumption
          have h3 : (s.cpu == p.cpu) = true := by assumption
          have h4 : (s.till == f.time) = true := by assumption
          have e : o (k + 1) = (o k).set ((o k).length - 1) ⟨s.cpu, s.since, endT t i⟩ := by rw [hstep, spanStep, h1, h2]; simp only [addSpan, hs, h3, h4]; rfl
          refine ⟨wk_to (wk_kp [3, 5, 6, 7, 19, 20, 21] [0, 1] (by simp) (by simp) rfl) (by simp only [go_sem, Nat.reduceLT, Nat.reduceEqDiff, Nat.reduceAdd, Nat.reduceSub, Nat.reduceMul, Nat.reduceLeDiff, reduceIte, reduceCtorEq, Int.lt_irrefl, Nat.reduceMod, Nat.reduceBEq, eq_self, false_and, and_false, hW _,  pullF_hp hW, hrB, hwk, e, List.map_append, List.length_append, List.length_set]), ?_⟩
          trivial
        · have h1 : (p.vcpu != v) = false := by assumption
          have h2 : (f.time == endT t i) = false := by assumption
          have h3 : (s.cpu == p.cpu) = true := by assumption
          have h4 : (s.till == f.time) = false := by assumption
          have e : o (k + 1) = o k ++ [⟨p.cpu, f.time, endT t i⟩] := by rw [hstep, spanStep, h1, h2]; simp only [addSpan, hs, h3, h4]; rfl
          refine ⟨wk_to (wk_kp [3, 5, 6, 7, 19, 20, 21] [4, 1] (by simp) (by simp) rfl) (by simp only [go_sem, Nat.reduceLT, Nat.reduceEqDiff, Nat.reduceAdd, Nat.reduceSub, Nat.reduceMul, Nat.reduceLeDiff, reduceIte, reduceCtorEq, Int.lt_irrefl, Nat.reduceMod, Nat.reduceBEq, eq_self, false_and, and_false, hW _,  pullF_hp hW, hrB, hwk, e, List.map_append, List.length_append, List.length_set]), ?_⟩
          trivial
        · have h1 : (p.vcpu != v) = false := by assumption
          have h2 : (f.time == endT t i) = false := by assumption
          have h3 : (s.cpu == p.cpu) = false := by assumption
          have e : o (k + 1) = o k ++ [⟨p.cpu, f.time, endT t i⟩] := by rw [hstep, spanStep, h1, h2]; simp only [addSpan, hs, h3]; rfl
          refine ⟨wk_to (wk_kp [3, 5, 6, 7, 19, 20, 21] [4, 1] (by simp) (by simp) rfl) (by simp only [go_sem, Nat.reduceLT, Nat.reduceEqDiff, Nat.reduceAdd, Nat.reduceSub, Nat.reduceMul, Nat.reduceLeDiff, reduceIte, reduceCtorEq, Int.lt_irrefl, Nat.reduceMod, Nat.reduceBEq, eq_self, false_and, and_false, hW _,  pullF_hp hW, hrB, hwk, e, List.map_append, List.length_append, List.length_set]), ?_⟩
          trivial
    · intro _
      repeat' (first
        | refine wpA_seq ?_
        | refine wpA_skip ?_
        | (refine wpA_exit ?_)
        | (refine hK _ _ ?_; clear hK K)
        | (refine hK _ _ rfl ?_; clear hK K)
        | (refine wpA_reg hT hE fun K hK => ?_; simp only [go_sem, Nat.reduceLT, Nat.reduceEqDiff, Nat.reduceAdd, Nat.reduceSub, Nat.reduceMul, Nat.reduceLeDiff, reduceIte, reduceCtorEq, Int.lt_irrefl, Nat.reduceMod, Nat.reduceBEq, eq_self, false_and, and_false])
        | (refine wpA_drw hT hE hmix (by kernel_rfl) fun K hK => ?_; simp only [go_sem, Nat.reduceLT, Nat.reduceEqDiff, Nat.reduceAdd, Nat.reduceSub, Nat.reduceMul, Nat.reduceLeDiff, reduceIte, reduceCtorEq, Int.lt_irrefl, Nat.reduceMod, Nat.reduceBEq, eq_self, false_and, and_false])
        | (refine gd_t (fun h => ?_) (fun h => ?_) <;> (try simp only [h, go_sem, Nat.reduceLT, Nat.reduceEqDiff, Nat.reduceAdd, Nat.reduceSub, Nat.reduceMul, Nat.reduceLeDiff, reduceIte, reduceCtorEq, Int.lt_irrefl, Nat.reduceMod, Nat.reduceBEq, eq_self, false_and, and_false]))
        | (refine gd_f (fun h => ?_) (fun h => ?_) <;> (try simp only [h, go_sem, Nat.reduceLT, Nat.reduceEqDiff, Nat.reduceAdd, Nat.reduceSub, Nat.reduceMul, Nat.reduceLeDiff, reduceIte, reduceCtorEq, Int.lt_irrefl, Nat.reduceMod, Nat.reduceBEq, eq_self, false_and, and_false]))
        | refine wpA_block ?_
        | (refine wpA_cond rfl (fun h => ?_) (fun h => ?_) <;> (try (cases h; done)))
        | (refine wpA_ret (fin_pure (.inl rfl) rfl (by simp only [go_sem, Nat.reduceLT, Nat.reduceEqDiff, Nat.reduceAdd, Nat.reduceSub, Nat.reduceMul, Nat.reduceLeDiff, reduceIte, reduceCtorEq, Int.lt_irrefl, Nat.reduceMod, Nat.reduceBEq, eq_self, false_and, and_false]; rfl) ?_ (hW _)); (try simp only [go_sem, Nat.reduceLT, Nat.reduceEqDiff, Nat.reduceAdd, Nat.reduceSub, Nat.reduceMul, Nat.reduceLeDiff, reduceIte, reduceCtorEq, Int.lt_irrefl, Nat.reduceMod, Nat.reduceBEq, eq_self, false_and, and_false]))
        | (refine wpA_ret (fin_pureM (.inl rfl) (by simp only [go_sem, Nat.reduceLT, Nat.reduceEqDiff, Nat.reduceAdd, Nat.reduceSub, Nat.reduceMul, Nat.reduceLeDiff, reduceIte, reduceCtorEq, Int.lt_irrefl, Nat.reduceMod, Nat.reduceBEq, eq_self, false_and, and_false]) (by simp only [go_sem, Nat.reduceLT, Nat.reduceEqDiff, Nat.reduceAdd, Nat.reduceSub, Nat.reduceMul, Nat.reduceLeDiff, reduceIte, reduceCtorEq, Int.lt_irrefl, Nat.reduceMod, Nat.reduceBEq, eq_self, false_and, and_false]; rfl) ?_ (hW _)); (try simp only [go_sem, Nat.reduceLT, Nat.reduceEqDiff, Nat.reduceAdd, Nat.reduceSub, Nat.reduceMul, Nat.reduceLeDiff, reduceIte, reduceCtorEq, Int.lt_irrefl, Nat.reduceMod, Nat.reduceBEq, eq_self, false_and, and_false]))
        | fail)
      refine ⟨trivial, ?_⟩
      refine wk_to (wk_kp [] [0] (by simp) (by simp) rfl) ?_
      simp only [go_sem, Nat.reduceLT, Nat.reduceEqDiff, Nat.reduceAdd, Nat.reduceSub, Nat.reduceMul, Nat.reduceLeDiff, reduceIte, reduceCtorEq, Int.lt_irrefl, Nat.reduceMod, Nat.reduceBEq, eq_self, false_and, and_false, pullF_hp hW, hrB, List.cons_append, List.nil_append, List.map_cons, List.map_nil,  hon]
  · intro hI rE
    simp only [Blk, Th]
    refine wpA_K fun K hK => ?_
    simp only [go_sem, Nat.reduceLT, Nat.reduceEqDiff, Nat.reduceAdd, Nat.reduceSub, Nat.reduceMul, Nat.reduceLeDiff, reduceIte, reduceCtorEq, Int.lt_irrefl, Nat.reduceMod, Nat.reduceBEq, eq_self, false_and, and_false, List.cons_append, List.nil_append]
    refine hK _ ?_; clear hK K
    repeat' (first
      | refine wpA_seq ?_
      | refine wpA_skip ?_
      | (refine wpA_exit ?_)
      | (refine hK _ _ ?_; clear hK K)
      | (refine hK _ _ rfl ?_; clear hK K)
      | (refine wpA_reg hT hE fun K hK => ?_; simp only [go_sem, Nat.reduceLT, Nat.reduceEqDiff, Nat.reduceAdd, Nat.reduceSub, Nat.reduceMul, Nat.reduceLeDiff, reduceIte, reduceCtorEq, Int.lt_irrefl, Nat.reduceMod, Nat.reduceBEq, eq_self, false_and, and_false])
      | (refine wpA_drw hT hE hmix (by kernel_rfl) fun K hK => ?_; simp only [go_sem, Nat.reduceLT, Nat.reduceEqDiff, Nat.reduceAdd, Nat.reduceSub, Nat.reduceMul, Nat.reduceLeDiff, reduceIte, reduceCtorEq, Int.lt_irrefl, Nat.reduceMod, Nat.reduceBEq, eq_self, false_and, and_false])
      | (refine gd_t (fun h => ?_) (fun h => ?_) <;> (try simp only [h, go_sem, Nat.reduceLT, Nat.reduceEqDiff, Nat.reduceAdd, Nat.reduceSub, Nat.reduceMul, Nat.reduceLeDiff, reduceIte, reduceCtorEq, Int.lt_irrefl, Nat.reduceMod, Nat.reduceBEq, eq_self, false_and, and_false]))
      | (refine gd_f (fun h => ?_) (fun h => ?_) <;> (try simp only [h, go_sem, Nat.reduceLT, Nat.reduceEqDiff, Nat.reduceAdd, Nat.reduceSub, Nat.reduceMul, Nat.reduceLeDiff, reduceIte, reduceCtorEq, Int.lt_irrefl, Nat.reduceMod, Nat.reduceBEq, eq_self, false_and, and_false]))
      | refine wpA_block ?_
      | (refine wpA_fz 5 rfl ?_; simp only [go_sem, Nat.reduceLT, Nat.reduceEqDiff, Nat.reduceAdd, Nat.reduceSub, Nat.reduceMul, Nat.reduceLeDiff, reduceIte, reduceCtorEq, Int.lt_irrefl, Nat.reduceMod, Nat.reduceBEq, eq_self, false_and, and_false])
      | (refine wpA_cond rfl (fun h => ?_) (fun h => ?_) <;> (try (cases h; done)))
      | (refine wpA_ret (fin_pure (.inl rfl) rfl (by simp only [go_sem, Nat.reduceLT, Nat.reduceEqDiff, Nat.reduceAdd, Nat.reduceSub, Nat.reduceMul, Nat.reduceLeDiff, reduceIte, reduceCtorEq, Int.lt_irrefl, Nat.reduceMod, Nat.reduceBEq, eq_self, false_and, and_false]; rfl) ?_ (hW _)); (try simp only [go_sem, Nat.reduceLT, Nat.reduceEqDiff, Nat.reduceAdd, Nat.reduceSub, Nat.reduceMul, Nat.reduceLeDiff, reduceIte, reduceCtorEq, Int.lt_irrefl, Nat.reduceMod, Nat.reduceBEq, eq_self, false_and, and_false]))
      | (refine wpA_ret (fin_pureM (.inl rfl) (by simp only [go_sem, Nat.reduceLT, Nat.reduceEqDiff, Nat.reduceAdd, Nat.reduceSub, Nat.reduceMul, Nat.reduceLeDiff, reduceIte, reduceCtorEq, Int.lt_irrefl, Nat.reduceMod, Nat.reduceBEq, eq_self, false_and, and_false]) (by simp only [go_sem, Nat.reduceLT, Nat.reduceEqDiff, Nat.reduceAdd, Nat.reduceSub, Nat.reduceMul, Nat.reduceLeDiff, reduceIte, reduceCtorEq, Int.lt_irrefl, Nat.reduceMod, Nat.reduceBEq, eq_self, false_and, and_false]; rfl) ?_ (hW _)); (try simp only [go_sem, Nat.reduceLT, Nat.reduceEqDiff, Nat.reduceAdd, Nat.reduceSub, Nat.reduceMul, Nat.reduceLeDiff, reduceIte, reduceCtorEq, Int.lt_irrefl, Nat.reduceMod, Nat.reduceBEq, eq_self, false_and, and_false]))
      | fail)
    simp [spansF, hr]
end Go.Proofs.Ythlmfkeeneeaoaa

namespace Go.Proofs.Ythlmfkeeneeaoaa
open Go Go.Av

theorem First_spec (t : Trace) (n : Nat) (hn : n ≤ t.frames.length) (hl : n ≤ 4000) (F : Hp) (b : Nat) :
    CallE Try.prog 35 [aTrace t, .v (.int .i64 n)] F b (.own (b + 0) n) [] [.row 58 2 ((t.frames.take n).map aFrame)] := by
  refine callE_of hT (fn := Try.f35) rfl rfl rfl (by simp [fnt]) (by simp) fun htop hW => ?_
  repeat' (first
    | refine wpA_seq ?_
    | refine wpA_skip ?_
    | (refine wpA_exit ?_)
    | (refine hK _ _ ?_; clear hK K)
    | (refine hK _ _ rfl ?_; clear hK K)
    | (refine wpA_reg hT hE fun K hK => ?_; simp only [go_sem, Nat.reduceLT, Nat.reduceEqDiff, Nat.reduceAdd, Nat.reduceSub, Nat.reduceMul, Nat.reduceLeDiff, reduceIte, reduceCtorEq, Int.lt_irrefl, Nat.reduceMod, Nat.reduceBEq, eq_self, false_and, and_false])
    | (refine wpA_drw hT hE hmix (by kernel_rfl) fun K hK => ?_; simp only [go_sem, Nat.reduceLT, Nat.reduceEqDiff, Nat.reduceAdd, Nat.reduceSub, Nat.reduceMul, Nat.reduceLeDiff, reduceIte, reduceCtorEq, Int.lt_irrefl, Nat.reduceMod, Nat.reduceBEq, eq_self, false_and, and_false])
    | (refine gd_t (fun h => ?_) (fun h => ?_) <;> (try simp only [h, go_sem, Nat.reduceLT, Nat.reduceEqDiff, Nat.reduceAdd, Nat.reduceSub, Nat.reduceMul, Nat.reduceLeDiff, reduceIte, reduceCtorEq, Int.lt_irrefl, Nat.reduceMod, Nat.reduceBEq, eq_self, false_and, and_false]))
    | (refine gd_f (fun h => ?_) (fun h => ?_) <;> (try simp only [h, go_sem, Nat.reduceLT, Nat.reduceEqDiff, Nat.reduceAdd, Nat.reduceSub, Nat.reduceMul, Nat.reduceLeDiff, reduceIte, reduceCtorEq, Int.lt_irrefl, Nat.reduceMod, Nat.reduceBEq, eq_self, false_and, and_false]))
    | refine wpA_block ?_
    | (refine wpA_cond rfl (fun h => ?_) (fun h => ?_) <;> (try (cases h; done)))
    | (refine wpA_ret (fin_pure (.inl rfl) rfl (by simp only [go_sem, Nat.reduceLT, Nat.reduceEqDiff, Nat.reduceAdd, Nat.reduceSub, Nat.reduceMul, Nat.reduceLeDiff, reduceIte, reduceCtorEq, Int.lt_irrefl, Nat.reduceMod, Nat.reduceBEq, eq_self, false_and, and_false]; rfl) ?_ (hW _)); (try simp only [go_sem, Nat.reduceLT, Nat.reduceEqDiff, Nat.reduceAdd, Nat.reduceSub, Nat.reduceMul, Nat.reduceLeDiff, reduceIte, reduceCtorEq, Int.lt_irrefl, Nat.reduceMod, Nat.reduceBEq, eq_self, false_and, and_false]))
    | (refine wpA_ret (fin_pureM (.inl rfl) (by simp only [go_sem, Nat.reduceLT, Nat.reduceEqDiff, Nat.reduceAdd, Nat.reduceSub, Nat.reduceMul, Nat.reduceLeDiff, reduceIte, reduceCtorEq, Int.lt_irrefl, Nat.reduceMod, Nat.reduceBEq, eq_self, false_and, and_false]) (by simp only [go_sem, Nat.reduceLT, Nat.reduceEqDiff, Nat.reduceAdd, Nat.reduceSub, Nat.reduceMul, Nat.reduceLeDiff, reduceIte, reduceCtorEq, Int.lt_irrefl, Nat.reduceMod, Nat.reduceBEq, eq_self, false_and, and_false]; rfl) ?_ (hW _)); (try simp only [go_sem, Nat.reduceLT, Nat.reduceEqDiff, Nat.reduceAdd, Nat.reduceSub, Nat.reduceMul, Nat.reduceLeDiff, reduceIte, reduceCtorEq, Int.lt_irrefl, Nat.reduceMod, Nat.reduceBEq, eq_self, false_and, and_false]))
    | fail)
  refine wpA_nilO 5 58 2 rfl fun K hK => ?_
  try simp only [go_sem, Nat.reduceLT, Nat.reduceEqDiff, Nat.reduceAdd, Nat.reduceSub, Nat.reduceMul, Nat.reduceLeDiff, reduceIte, reduceCtorEq, Int.lt_irrefl, Nat.reduceMod, Nat.reduceBEq, eq_self, false_and, and_false]
  refine hK _ ?_; clear hK K
  refine wpA_kp [1, 2, 5, 6] [1, 0] (by simp) (by simp) rfl fun K hK => ?_
  simp only [go_sem, Nat.reduceLT, Nat.reduceEqDiff, Nat.reduceAdd, Nat.reduceSub, Nat.reduceMul, Nat.reduceLeDiff, reduceIte, reduceCtorEq, Int.lt_irrefl, Nat.reduceMod, Nat.reduceBEq, eq_self, false_and, and_false, hW _]
  refine hK _ ?_; clear hK K
  refine wpA_for n (fun i => { tm := [(1, .v (.int .i64 n)), (2, .ptr (b + 1) 0), (5, .own (b + 0) i), (6, .v (.int .i64 i))], F := F, L := [.row 58 2 ((t.frames.take i).map aFrame), .blk 24 [.sl (t.frames.map aFrame), .v (.int .i64 t.fin)]], ds := [] }) (fun i => True) rfl trivial ?_ ?_
  · intro i hi _
    obtain ⟨f, hf, _, htake⟩ := get_of_lt (l := t.frames) (i := i) (by omega)
    have hi' : ((i : Int) < n) := by omega
    have hi2 : i ≤ t.frames.length := by omega
    have hw := wrap1 hi (by omega)
    have hmin : min i t.frames.length = i := by omega
    have hb1 : (i + 1) * 32 ≤ 140737488355328 := by omega
    have hb2 : i ≤ 9223372036854775806 := by omega
    repeat' (first
      | refine wpA_seq ?_
      | refine wpA_skip ?_
      | (refine wpA_exit ?_)
      | (refine hK _ _ ?_; clear hK K)
      | (refine hK _ _ rfl ?_; clear hK K)
      | (refine wpA_reg hT hE fun K hK => ?_; simp only [go_sem, Nat.reduceLT, Nat.reduceEqDiff, Nat.reduceAdd, Nat.reduceSub, Nat.reduceMul, Nat.reduceLeDiff, reduceIte, reduceCtorEq, Int.lt_irrefl, Nat.reduceMod, Nat.reduceBEq, eq_self, false_and, and_false, hf, Int.natCast_nonneg, hi', hi2, hb1, hb2, List.length_take, hmin])
      | (refine wpA_drw hT hE hmix (by kernel_rfl) fun K hK => ?_; simp only [go_sem, Nat.reduceLT, Nat.reduceEqDiff, Nat.reduceAdd, Nat.reduceSub, Nat.reduceMul, Nat.reduceLeDiff, reduceIte, reduceCtorEq, Int.lt_irrefl, Nat.reduceMod, Nat.reduceBEq, eq_self, false_and, and_false, hf, Int.natCast_nonneg, hi', hi2, hb1, hb2, List.length_take, hmin])
      | (refine gd_t (fun h => ?_) (fun h => ?_) <;> (try simp only [h, go_sem, Nat.reduceLT, Nat.reduceEqDiff, Nat.reduceAdd, Nat.reduceSub, Nat.reduceMul, Nat.reduceLeDiff, reduceIte, reduceCtorEq, Int.lt_irrefl, Nat.reduceMod, Nat.reduceBEq, eq_self, false_and, and_false, hf, Int.natCast_nonneg, hi', hi2, hb1, hb2, List.length_take, hmin]))
      | (refine gd_f (fun h => ?_) (fun h => ?_) <;> (try simp only [h, go_sem, Nat.reduceLT, Nat.reduceEqDiff, Nat.reduceAdd, Nat.reduceSub, Nat.reduceMul, Nat.reduceLeDiff, reduceIte, reduceCtorEq, Int.lt_irrefl, Nat.reduceMod, Nat.reduceBEq, eq_self, false_and, and_false, hf, Int.natCast_nonneg, hi', hi2, hb1, hb2, List.length_take, hmin]))
      | refine wpA_block ?_
      | (refine wpA_cond rfl (fun h => ?_) (fun h => ?_) <;> (try (cases h; done)))
      | (refine wpA_ret (fin_pure (.inl rfl) rfl (by simp only [go_sem, Nat.reduceLT, Nat.reduceEqDiff, Nat.reduceAdd, Nat.reduceSub, Nat.reduceMul, Nat.reduceLeDiff, reduceIte, reduceCtorEq, Int.lt_irrefl, Nat.reduceMod, Nat.reduceBEq, eq_self, false_and, and_false, hf, Int.natCast_nonneg, hi', hi2, hb1, hb2, List.length_take, hmin]; rfl) ?_ (hW _)); (try simp only [go_sem, Nat.reduceLT, Nat.reduceEqDiff, Nat.reduceAdd, Nat.reduceSub, Nat.reduceMul, Nat.reduceLeDiff, reduceIte, reduceCtorEq, Int.lt_irrefl, Nat.reduceMod, Nat.reduceBEq, eq_self, false_and, and_false, hf, Int.natCast_nonneg, hi', hi2, hb1, hb2, List.length_take, hmin]))
      | (refine wpA_ret (fin_pureM (.inl rfl) (by simp only [go_sem, Nat.reduceLT, Nat.reduceEqDiff, Nat.reduceAdd, Nat.reduceSub, Nat.reduceMul, Nat.reduceLeDiff, reduceIte, reduceCtorEq, Int.lt_irrefl, Nat.reduceMod, Nat.reduceBEq, eq_self, false_and, and_false]) (by simp only [go_sem, Nat.reduceLT, Nat.reduceEqDiff, Nat.reduceAdd, Nat.reduceSub, Nat.reduceMul, Nat.reduceLeDiff, reduceIte, reduceCtorEq, Int.lt_irrefl, Nat.reduceMod, Nat.reduceBEq, eq_self, false_and, and_false, hf, Int.natCast_nonneg, hi', hi2, hb1, hb2, List.length_take, hmin]; rfl) ?_ (hW _)); (try simp only [go_sem, Nat.reduceLT, Nat.reduceEqDiff, Nat.reduceAdd, Nat.reduceSub, Nat.reduceMul, Nat.reduceLeDiff, reduceIte, reduceCtorEq, Int.lt_irrefl, Nat.reduceMod, Nat.reduceBEq, eq_self, false_and, and_false, hf, Int.natCast_nonneg, hi', hi2, hb1, hb2, List.length_take, hmin]))
      | fail)
    refine ⟨wk_to (wk_kp [1, 2, 5, 6] [3, 1] (by simp) (by simp) rfl) (by simp only [go_sem, Nat.reduceLT, Nat.reduceEqDiff, Nat.reduceAdd, Nat.reduceSub, Nat.reduceMul, Nat.reduceLeDiff, reduceIte, reduceCtorEq, Int.lt_irrefl, Nat.reduceMod, Nat.reduceBEq, eq_self, false_and, and_false, hW _,  hw, htake, List.map_append]), ?_⟩
    trivial
  · intro _
    repeat' (first
      | refine wpA_seq ?_
      | refine wpA_skip ?_
      | (refine wpA_exit ?_)
      | (refine hK _ _ ?_; clear hK K)
      | (refine hK _ _ rfl ?_; clear hK K)
      | (refine wpA_reg hT hE fun K hK => ?_; simp only [go_sem, Nat.reduceLT, Nat.reduceEqDiff, Nat.reduceAdd, Nat.reduceSub, Nat.reduceMul, Nat.reduceLeDiff, reduceIte, reduceCtorEq, Int.lt_irrefl, Nat.reduceMod, Nat.reduceBEq, eq_self, false_and, and_false])
      | (refine wpA_drw hT hE hmix (by kernel_rfl) fun K hK => ?_; simp only [go_sem, Nat.reduceLT, Nat.reduceEqDiff, Nat.reduceAdd, Nat.reduceSub, Nat.reduceMul, Nat.reduceLeDiff, reduceIte, reduceCtorEq, Int.lt_irrefl, Nat.reduceMod, Nat.reduceBEq, eq_self, false_and, and_false])
      | (refine gd_t (fun h => ?_) (fun h => ?_) <;> (try simp only [h, go_sem, Nat.reduceLT, Nat.reduceEqDiff, Nat.reduceAdd, Nat.reduceSub, Nat.reduceMul, Nat.reduceLeDiff, reduceIte, reduceCtorEq, Int.lt_irrefl, Nat.reduceMod, Nat.reduceBEq, eq_self, false_and, and_false]))
      | (refine gd_f (fun h => ?_) (fun h => ?_) <;> (try simp only [h, go_sem, Nat.reduceLT, Nat.reduceEqDiff, Nat.reduceAdd, Nat.reduceSub, Nat.reduceMul, Nat.reduceLeDiff, reduceIte, reduceCtorEq, Int.lt_irrefl, Nat.reduceMod, Nat.reduceBEq, eq_self, false_and, and_false]))
      | refine wpA_block ?_
      | (refine wpA_cond rfl (fun h => ?_) (fun h => ?_) <;> (try (cases h; done)))
      | (refine wpA_ret (fin_pure (.inl rfl) rfl (by simp only [go_sem, Nat.reduceLT, Nat.reduceEqDiff, Nat.reduceAdd, Nat.reduceSub, Nat.reduceMul, Nat.reduceLeDiff, reduceIte, reduceCtorEq, Int.lt_irrefl, Nat.reduceMod, Nat.reduceBEq, eq_self, false_and, and_false]; rfl) ?_ (hW _)); (try simp only [go_sem, Nat.reduceLT, Nat.reduceEqDiff, Nat.reduceAdd, Nat.reduceSub, Nat.reduceMul, Nat.reduceLeDiff, reduceIte, reduceCtorEq, Int.lt_irrefl, Nat.reduceMod, Nat.reduceBEq, eq_self, false_and, and_false]))
      | (refine wpA_ret (fin_pureM (.inl rfl) (by simp only [go_sem, Nat.reduceLT, Nat.reduceEqDiff, Nat.reduceAdd, Nat.reduceSub, Nat.reduceMul, Nat.reduceLeDiff, reduceIte, reduceCtorEq, Int.lt_irrefl, Nat.reduceMod, Nat.reduceBEq, eq_self, false_and, and_false]) (by simp only [go_sem, Nat.reduceLT, Nat.reduceEqDiff, Nat.reduceAdd, Nat.reduceSub, Nat.reduceMul, Nat.reduceLeDiff, reduceIte, reduceCtorEq, Int.lt_irrefl, Nat.reduceMod, Nat.reduceBEq, eq_self, false_and, and_false]; rfl) ?_ (hW _)); (try simp only [go_sem, Nat.reduceLT, Nat.reduceEqDiff, Nat.reduceAdd, Nat.reduceSub, Nat.reduceMul, Nat.reduceLeDiff, reduceIte, reduceCtorEq, Int.lt_irrefl, Nat.reduceMod, Nat.reduceBEq, eq_self, false_and, and_false]))
      | fail)
    refine wpA_ret (fin_mk [0] (.inl rfl) (by simp only [go_sem, Nat.reduceLT, Nat.reduceEqDiff, Nat.reduceAdd, Nat.reduceSub, Nat.reduceMul, Nat.reduceLeDiff, reduceIte, reduceCtorEq, Int.lt_irrefl, Nat.reduceMod, Nat.reduceBEq, eq_self, false_and, and_false]) (by simp only [go_sem, Nat.reduceLT, Nat.reduceEqDiff, Nat.reduceAdd, Nat.reduceSub, Nat.reduceMul, Nat.reduceLeDiff, reduceIte, reduceCtorEq, Int.lt_irrefl, Nat.reduceMod, Nat.reduceBEq, eq_self, false_and, and_false]; rfl) (by simp) (by simp [go_sem]) ?_ ?_ ?_)
    all_goals (try simp only [go_sem, Nat.reduceLT, Nat.reduceEqDiff, Nat.reduceAdd, Nat.reduceSub, Nat.reduceMul, Nat.reduceLeDiff, reduceIte, reduceCtorEq, Int.lt_irrefl, Nat.reduceMod, Nat.reduceBEq, eq_self, false_and, and_false, hW _])
end Go.Proofs.Ythlmfkeeneeaoaa
