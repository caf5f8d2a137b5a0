/- Generic: a calculus of what calls do to memory that is given by its values. It states nothing of the program. -/
import Derived.Test.YthlmfkeeneeaoaaAvW1
set_option linter.all false
set_option linter.unnecessarySimpa false
set_option linter.unusedVariables false
set_option linter.unusedSimpArgs false
namespace Go.Av
attribute [go_sem] Nat.zero_add Nat.min_self ne_eq implies_true Option.map_none List.length_append
theorem drop_map_len {α β : Type} (f : α → β) (l : List α) : (l.map f).drop l.length = [] := by
  rw [← List.length_map (f := f), List.drop_length]
theorem drop_repl {α : Type} (x : α) (n : Nat) : (List.replicate n x).drop n = [] := by simp
attribute [go_sem] drop_map_len drop_repl List.length_replicate
end Go.Av
namespace Go.Proofs.Ythlmfkeeneeaoaa
open Go Go.Av

def lastF (l : List Frame) : Option Frame := l[l.length - 1]?
def cutLast (t : Trace) : List Frame := match lastF t.frames with
  | some f => if (f.time == t.fin) = true then t.frames.take (t.frames.length - 1) else t.frames
  | none => t.frames
def putLast (l : List Frame) (fin : Int) (puts : List Put) : List Frame := match lastF l with
  | some g => if decide (g.puts = puts) = true then l else l ++ [⟨fin, puts⟩]
  | none => l ++ [⟨fin, puts⟩]
def withF (t : Trace) (puts : List Put) : Trace := ⟨putLast (cutLast t) t.fin puts, t.fin⟩

theorem with_spec (t : Trace) (puts : List Put) (hl : t.frames.length ≤ 4000) (hp : puts.length ≤ 8) : PureE Try.prog 33 [aTrace t, .sl (puts.map aPut)] [] (aTrace (withF t puts)) := by
  intro F b hn
  refine callE_of hT (fn := Try.f33) rfl rfl rfl (by simp [fnt]) (by simp) fun htop hW => ?_
  have hw0 : IntKind.i64.wrap ((t.frames.length : Int) + 1) = ((t.frames.length + 1 : Nat) : Int) := wrap1 (i := t.frames.length) (n := t.frames.length + 1) (by omega) (by omega)
  have hm1 : ((t.frames.length : Int) ≤ ((t.frames.length + 1 : Nat) : Int)) := by omega
  have hm2 : ((t.frames.length + 1 : Nat) : Int) * ((32 : Nat) : Int) ≤ 140737488355328 := by omega
  have hm3 : ((t.frames.length + 1 : Nat) : Int) ≤ 9223372036854775807 := by omega
  have hm4 : (0 : Int) ≤ (t.frames.length : Int) := by omega
  have hb1 : (t.frames.length + 1) * 32 ≤ 140737488355328 := by omega
  have hb2 : t.frames.length ≤ 9223372036854775806 := by omega
  have hb3 : (t.frames.length - 1 + 1) * 32 ≤ 140737488355328 := by omega
  have hb4 : t.frames.length - 1 ≤ 9223372036854775806 := by omega
  have hp1 : puts.length ≤ 1000000 := by omega
  rcases Nat.eq_zero_or_pos t.frames.length with hz | hz
  · have hz' : ¬ ((t.frames.length : Int) > 0) := by omega
    have hz2 : ((t.frames.length : Int) == 0) = true := by rw [beq_iff_eq]; omega
    have hnil : t.frames = [] := List.length_eq_zero_iff.1 hz
    have e : withF t puts = ⟨t.frames ++ [⟨t.fin, puts⟩], t.fin⟩ := by simp [withF, putLast, cutLast, lastF, hnil]
    repeat' (first
      | refine wpA_seq ?_
      | refine wpA_skip ?_
      | (refine wpA_exit ?_)
      | (refine hK _ _ ?_; clear hK K)
      | (refine hK _ _ rfl ?_; clear hK K)
      | (refine wpA_reg hT hE fun K hK => ?_; simp only [go_sem, Nat.reduceLT, Nat.reduceEqDiff, Nat.reduceAdd, Nat.reduceSub, Nat.reduceMul, Nat.reduceLeDiff, reduceIte, reduceCtorEq, Int.lt_irrefl, Nat.reduceMod, Nat.reduceBEq, eq_self, false_and, and_false, hw0, hm1, hm2, hm3, hm4, hz', hz2, Int.natCast_nonneg, hb1, hb2])
      | (refine wpA_drw hT hE hmix (by kernel_rfl) fun K hK => ?_; simp only [go_sem, Nat.reduceLT, Nat.reduceEqDiff, Nat.reduceAdd, Nat.reduceSub, Nat.reduceMul, Nat.reduceLeDiff, reduceIte, reduceCtorEq, Int.lt_irrefl, Nat.reduceMod, Nat.reduceBEq, eq_self, false_and, and_false, hw0, hm1, hm2, hm3, hm4, hz', hz2, Int.natCast_nonneg, hb1, hb2])
      | (refine gd_t (fun h => ?_) (fun h => ?_) <;> (try simp only [h, go_sem, Nat.reduceLT, Nat.reduceEqDiff, Nat.reduceAdd, Nat.reduceSub, Nat.reduceMul, Nat.reduceLeDiff, reduceIte, reduceCtorEq, Int.lt_irrefl, Nat.reduceMod, Nat.reduceBEq, eq_self, false_and, and_false, hw0, hm1, hm2, hm3, hm4, hz', hz2, Int.natCast_nonneg, hb1, hb2]))
      | (refine gd_f (fun h => ?_) (fun h => ?_) <;> (try simp only [h, go_sem, Nat.reduceLT, Nat.reduceEqDiff, Nat.reduceAdd, Nat.reduceSub, Nat.reduceMul, Nat.reduceLeDiff, reduceIte, reduceCtorEq, Int.lt_irrefl, Nat.reduceMod, Nat.reduceBEq, eq_self, false_and, and_false, hw0, hm1, hm2, hm3, hm4, hz', hz2, Int.natCast_nonneg, hb1, hb2]))
      | refine wpA_block ?_
      | (refine wpA_fz 4 rfl ?_; simp only [go_sem, Nat.reduceLT, Nat.reduceEqDiff, Nat.reduceAdd, Nat.reduceSub, Nat.reduceMul, Nat.reduceLeDiff, reduceIte, reduceCtorEq, Int.lt_irrefl, Nat.reduceMod, Nat.reduceBEq, eq_self, false_and, and_false, hw0, hm1, hm2, hm3, hm4, hz', hz2, Int.natCast_nonneg, hb1, hb2])
      | (refine wpA_fz 2 rfl ?_; simp only [go_sem, Nat.reduceLT, Nat.reduceEqDiff, Nat.reduceAdd, Nat.reduceSub, Nat.reduceMul, Nat.reduceLeDiff, reduceIte, reduceCtorEq, Int.lt_irrefl, Nat.reduceMod, Nat.reduceBEq, eq_self, false_and, and_false, hw0, hm1, hm2, hm3, hm4, hz', hz2, Int.natCast_nonneg, hb1, hb2])
      | (refine wpA_cond rfl (fun h => ?_) (fun h => ?_) <;> (try (cases h; done)))
      | (refine wpA_ret (fin_pure (.inl rfl) rfl (by simp only [go_sem, Nat.reduceLT, Nat.reduceEqDiff, Nat.reduceAdd, Nat.reduceSub, Nat.reduceMul, Nat.reduceLeDiff, reduceIte, reduceCtorEq, Int.lt_irrefl, Nat.reduceMod, Nat.reduceBEq, eq_self, false_and, and_false, hw0, hm1, hm2, hm3, hm4, hz', hz2, Int.natCast_nonneg, hb1, hb2]; rfl) ?_ (hW _)); (try simp only [go_sem, Nat.reduceLT, Nat.reduceEqDiff, Nat.reduceAdd, Nat.reduceSub, Nat.reduceMul, Nat.reduceLeDiff, reduceIte, reduceCtorEq, Int.lt_irrefl, Nat.reduceMod, Nat.reduceBEq, eq_self, false_and, and_false, hw0, hm1, hm2, hm3, hm4, hz', hz2, Int.natCast_nonneg, hb1, hb2]))
      | (refine wpA_ret (fin_pureM (.inl rfl) (by simp only [go_sem, Nat.reduceLT, Nat.reduceEqDiff, Nat.reduceAdd, Nat.reduceSub, Nat.reduceMul, Nat.reduceLeDiff, reduceIte, reduceCtorEq, Int.lt_irrefl, Nat.reduceMod, Nat.reduceBEq, eq_self, false_and, and_false]) (by simp only [go_sem, Nat.reduceLT, Nat.reduceEqDiff, Nat.reduceAdd, Nat.reduceSub, Nat.reduceMul, Nat.reduceLeDiff, reduceIte, reduceCtorEq, Int.lt_irrefl, Nat.reduceMod, Nat.reduceBEq, eq_self, false_and, and_false, hw0, hm1, hm2, hm3, hm4, hz', hz2, Int.natCast_nonneg, hb1, hb2]; rfl) ?_ (hW _)); (try simp only [go_sem, Nat.reduceLT, Nat.reduceEqDiff, Nat.reduceAdd, Nat.reduceSub, Nat.reduceMul, Nat.reduceLeDiff, reduceIte, reduceCtorEq, Int.lt_irrefl, Nat.reduceMod, Nat.reduceBEq, eq_self, false_and, and_false, hw0, hm1, hm2, hm3, hm4, hz', hz2, Int.natCast_nonneg, hb1, hb2]))
      | (refine ⟨_, [], [], PureE.call (Clone_spec puts hp1) (by first | (simp; done) | (simp [hpF_add, hpF_lo]; done) | exact need_hp htop hn | exact need_hp2 htop hn), ?_⟩; (try simp only [go_sem, Nat.reduceLT, Nat.reduceEqDiff, Nat.reduceAdd, Nat.reduceSub, Nat.reduceMul, Nat.reduceLeDiff, reduceIte, reduceCtorEq, Int.lt_irrefl, Nat.reduceMod, Nat.reduceBEq, eq_self, false_and, and_false, hw0, hm1, hm2, hm3, hm4, hz', hz2, Int.natCast_nonneg, hb1, hb2]))
      | (refine ⟨_, _, [], PureE.toS (Clone_spec puts hp1), by first | (simp; done) | (simp [hpF_add, hpF_lo]; done) | exact need_hp htop hn | exact need_hp2 htop hn, by simp, ?_⟩; (try simp only [go_sem, Nat.reduceLT, Nat.reduceEqDiff, Nat.reduceAdd, Nat.reduceSub, Nat.reduceMul, Nat.reduceLeDiff, reduceIte, reduceCtorEq, Int.lt_irrefl, Nat.reduceMod, Nat.reduceBEq, eq_self, false_and, and_false, hw0, hm1, hm2, hm3, hm4, hz', hz2, Int.natCast_nonneg, hb1, hb2]))
      | fail)
    rw [e, List.map_append]; rfl
  · obtain ⟨s, hs, _, _⟩ := get_of_lt (l := t.frames) (i := t.frames.length - 1) (by omega)
    have hz' : ((t.frames.length : Int) > 0) := by omega
    have hz2 : ((t.frames.length : Int) == 0) = false := by rw [beq_eq_false_iff_ne]; omega
    have hwz := wrapP (i := t.frames.length) (n := t.frames.length + 1) (by omega) hz (by omega)
    have hlt : t.frames.length - 1 < t.frames.length := by omega
    have hlt' : ((t.frames.length - 1 : Nat) : Int) < (t.frames.length : Int) := by omega
    cases hst : (s.time == t.fin) with
    | false =>
      have e : cutLast t = t.frames := by simp only [cutLast, lastF, hs, hst]; rfl
      repeat' (first
        | refine wpA_seq ?_
        | refine wpA_skip ?_
        | (refine wpA_exit ?_)
        | (refine hK _ _ ?_; clear hK K)
        | (refine hK _ _ rfl ?_; clear hK K)
        | (refine wpA_reg hT hE fun K hK => ?_; simp only [go_sem, Nat.reduceLT, Nat.reduceEqDiff, Nat.reduceAdd, Nat.reduceSub, Nat.reduceMul, Nat.reduceLeDiff, reduceIte, reduceCtorEq, Int.lt_irrefl, Nat.reduceMod, Nat.reduceBEq, eq_self, false_and, and_false, hw0, hm1, hm2, hm3, hm4, hs, hz', hz2, hwz, hlt, hlt', Int.natCast_nonneg, hst, hb1, hb2])
        | (refine wpA_drw hT hE hmix (by kernel_rfl) fun K hK => ?_; simp only [go_sem, Nat.reduceLT, Nat.reduceEqDiff, Nat.reduceAdd, Nat.reduceSub, Nat.reduceMul, Nat.reduceLeDiff, reduceIte, reduceCtorEq, Int.lt_irrefl, Nat.reduceMod, Nat.reduceBEq, eq_self, false_and, and_false, hw0, hm1, hm2, hm3, hm4, hs, hz', hz2, hwz, hlt, hlt', Int.natCast_nonneg, hst, hb1, hb2])
        | (refine gd_t (fun h => ?_) (fun h => ?_) <;> (try simp only [h, go_sem, Nat.reduceLT, Nat.reduceEqDiff, Nat.reduceAdd, Nat.reduceSub, Nat.reduceMul, Nat.reduceLeDiff, reduceIte, reduceCtorEq, Int.lt_irrefl, Nat.reduceMod, Nat.reduceBEq, eq_self, false_and, and_false, hw0, hm1, hm2, hm3, hm4, hs, hz', hz2, hwz, hlt, hlt', Int.natCast_nonneg, hst, hb1, hb2]))
        | (refine gd_f (fun h => ?_) (fun h => ?_) <;> (try simp only [h, go_sem, Nat.reduceLT, Nat.reduceEqDiff, Nat.reduceAdd, Nat.reduceSub, Nat.reduceMul, Nat.reduceLeDiff, reduceIte, reduceCtorEq, Int.lt_irrefl, Nat.reduceMod, Nat.reduceBEq, eq_self, false_and, and_false, hw0, hm1, hm2, hm3, hm4, hs, hz', hz2, hwz, hlt, hlt', Int.natCast_nonneg, hst, hb1, hb2]))
        | refine wpA_block ?_
        | (refine wpA_fz 4 rfl ?_; simp only [go_sem, Nat.reduceLT, Nat.reduceEqDiff, Nat.reduceAdd, Nat.reduceSub, Nat.reduceMul, Nat.reduceLeDiff, reduceIte, reduceCtorEq, Int.lt_irrefl, Nat.reduceMod, Nat.reduceBEq, eq_self, false_and, and_false, hw0, hm1, hm2, hm3, hm4, hs, hz', hz2, hwz, hlt, hlt', Int.natCast_nonneg, hst, hb1, hb2])
        | (refine wpA_fz 2 rfl ?_; simp only [go_sem, Nat.reduceLT, Nat.reduceEqDiff, Nat.reduceAdd, Nat.reduceSub, Nat.reduceMul, Nat.reduceLeDiff, reduceIte, reduceCtorEq, Int.lt_irrefl, Nat.reduceMod, Nat.reduceBEq, eq_self, false_and, and_false, hw0, hm1, hm2, hm3, hm4, hs, hz', hz2, hwz, hlt, hlt', Int.natCast_nonneg, hst, hb1, hb2])
        | (refine wpA_cond rfl (fun h => ?_) (fun h => ?_) <;> (try (cases h; done)))
        | (refine wpA_ret (fin_pure (.inl rfl) rfl (by simp only [go_sem, Nat.reduceLT, Nat.reduceEqDiff, Nat.reduceAdd, Nat.reduceSub, Nat.reduceMul, Nat.reduceLeDiff, reduceIte, reduceCtorEq, Int.lt_irrefl, Nat.reduceMod, Nat.reduceBEq, eq_self, false_and, and_false, hw0, hm1, hm2, hm3, hm4, hs, hz', hz2, hwz, hlt, hlt', Int.natCast_nonneg, hst, hb1, hb2]; rfl) ?_ (hW _)); (try simp only [go_sem, Nat.reduceLT, Nat.reduceEqDiff, Nat.reduceAdd, Nat.reduceSub, Nat.reduceMul, Nat.reduceLeDiff, reduceIte, reduceCtorEq, Int.lt_irrefl, Nat.reduceMod, Nat.reduceBEq, eq_self, false_and, and_false, hw0, hm1, hm2, hm3, hm4, hs, hz', hz2, hwz, hlt, hlt', Int.natCast_nonneg, hst, hb1, hb2]))
        | (refine wpA_ret (fin_pureM (.inl rfl) (by simp only [go_sem, Nat.reduceLT, Nat.reduceEqDiff, Nat.reduceAdd, Nat.reduceSub, Nat.reduceMul, Nat.reduceLeDiff, reduceIte, reduceCtorEq, Int.lt_irrefl, Nat.reduceMod, Nat.reduceBEq, eq_self, false_and, and_false]) (by simp only [go_sem, Nat.reduceLT, Nat.reduceEqDiff, Nat.reduceAdd, Nat.reduceSub, Nat.reduceMul, Nat.reduceLeDiff, reduceIte, reduceCtorEq, Int.lt_irrefl, Nat.reduceMod, Nat.reduceBEq, eq_self, false_and, and_false, hw0, hm1, hm2, hm3, hm4, hs, hz', hz2, hwz, hlt, hlt', Int.natCast_nonneg, hst, hb1, hb2]; rfl) ?_ (hW _)); (try simp only [go_sem, Nat.reduceLT, Nat.reduceEqDiff, Nat.reduceAdd, Nat.reduceSub, Nat.reduceMul, Nat.reduceLeDiff, reduceIte, reduceCtorEq, Int.lt_irrefl, Nat.reduceMod, Nat.reduceBEq, eq_self, false_and, and_false, hw0, hm1, hm2, hm3, hm4, hs, hz', hz2, hwz, hlt, hlt', Int.natCast_nonneg, hst, hb1, hb2]))
        | (refine ⟨_, [], [], PureE.call (Clone_spec puts hp1) (by first | (simp; done) | (simp [hpF_add, hpF_lo]; done) | exact need_hp htop hn | exact need_hp2 htop hn), ?_⟩; (try simp only [go_sem, Nat.reduceLT, Nat.reduceEqDiff, Nat.reduceAdd, Nat.reduceSub, Nat.reduceMul, Nat.reduceLeDiff, reduceIte, reduceCtorEq, Int.lt_irrefl, Nat.reduceMod, Nat.reduceBEq, eq_self, false_and, and_false, hw0, hm1, hm2, hm3, hm4, hs, hz', hz2, hwz, hlt, hlt', Int.natCast_nonneg, hst, hb1, hb2]))
        | (refine ⟨_, _, [], PureE.toS (Clone_spec puts hp1), by first | (simp; done) | (simp [hpF_add, hpF_lo]; done) | exact need_hp htop hn | exact need_hp2 htop hn, by simp, ?_⟩; (try simp only [go_sem, Nat.reduceLT, Nat.reduceEqDiff, Nat.reduceAdd, Nat.reduceSub, Nat.reduceMul, Nat.reduceLeDiff, reduceIte, reduceCtorEq, Int.lt_irrefl, Nat.reduceMod, Nat.reduceBEq, eq_self, false_and, and_false, hw0, hm1, hm2, hm3, hm4, hs, hz', hz2, hwz, hlt, hlt', Int.natCast_nonneg, hst, hb1, hb2]))
        | (refine ⟨_, [], [], PureE.call (alike_spec s.puts puts) (by first | (simp; done) | (simp [hpF_add, hpF_lo]; done) | exact need_hp htop hn | exact need_hp2 htop hn), ?_⟩; (try simp only [go_sem, Nat.reduceLT, Nat.reduceEqDiff, Nat.reduceAdd, Nat.reduceSub, Nat.reduceMul, Nat.reduceLeDiff, reduceIte, reduceCtorEq, Int.lt_irrefl, Nat.reduceMod, Nat.reduceBEq, eq_self, false_and, and_false, hw0, hm1, hm2, hm3, hm4, hs, hz', hz2, hwz, hlt, hlt', Int.natCast_nonneg, hst, hb1, hb2]))
        | (refine ⟨_, _, [], PureE.toS (alike_spec s.puts puts), by first | (simp; done) | (simp [hpF_add, hpF_lo]; done) | exact need_hp htop hn | exact need_hp2 htop hn, by simp, ?_⟩; (try simp only [go_sem, Nat.reduceLT, Nat.reduceEqDiff, Nat.reduceAdd, Nat.reduceSub, Nat.reduceMul, Nat.reduceLeDiff, reduceIte, reduceCtorEq, Int.lt_irrefl, Nat.reduceMod, Nat.reduceBEq, eq_self, false_and, and_false, hw0, hm1, hm2, hm3, hm4, hs, hz', hz2, hwz, hlt, hlt', Int.natCast_nonneg, hst, hb1, hb2]))
        | fail)
      · have h' : decide (s.puts = puts) = false := by simpa using h
        have e2 : withF t puts = ⟨t.frames ++ [⟨t.fin, puts⟩], t.fin⟩ := by rw [withF, e]; simp only [putLast, lastF, hs, h']; rfl
        rw [e2, List.map_append]; rfl
      · have h' : decide (s.puts = puts) = true := by simpa using h
        have e2 : withF t puts = ⟨t.frames, t.fin⟩ := by rw [withF, e]; simp only [putLast, lastF, hs, h']; rfl
        rw [e2]
    | true =>
      have e : cutLast t = t.frames.take (t.frames.length - 1) := by simp only [cutLast, lastF, hs, hst]; rfl
      have hle : t.frames.length - 1 ≤ t.frames.length := by omega
      have hmp : (t.frames.map aFrame).take (t.frames.length - 1) = (t.frames.take (t.frames.length - 1)).map aFrame := List.map_take.symm
      have hll : (t.frames.take (t.frames.length - 1)).length = t.frames.length - 1 := by simp
      rcases Nat.eq_zero_or_pos (t.frames.length - 1) with hy | hy
      · have hz2 : (((t.frames.length - 1 : Nat) : Int) == 0) = true := by rw [beq_iff_eq]; omega
        have hnil : t.frames.take (t.frames.length - 1) = [] := by rw [hy]; rfl
        have e2 : withF t puts = ⟨t.frames.take (t.frames.length - 1) ++ [⟨t.fin, puts⟩], t.fin⟩ := by rw [withF, e, hnil]; simp [putLast, lastF]
        repeat' (first
          | refine wpA_seq ?_
          | refine wpA_skip ?_
          | (refine wpA_exit ?_)
          | (refine hK _ _ ?_; clear hK K)
          | (refine hK _ _ rfl ?_; clear hK K)
          | (refine wpA_reg hT hE fun K hK => ?_; simp only [go_sem, Nat.reduceLT, Nat.reduceEqDiff, Nat.reduceAdd, Nat.reduceSub, Nat.reduceMul, Nat.reduceLeDiff, reduceIte, reduceCtorEq, Int.lt_irrefl, Nat.reduceMod, Nat.reduceBEq, eq_self, false_and, and_false, hw0, hm1, hm2, hm3, hm4, hs, hz', hz2, hwz, hlt, hlt', Int.natCast_nonneg, hst, hb3, hb4, hle, hmp, hll])
          | (refine wpA_drw hT hE hmix (by kernel_rfl) fun K hK => ?_; simp only [go_sem, Nat.reduceLT, Nat.reduceEqDiff, Nat.reduceAdd, Nat.reduceSub, Nat.reduceMul, Nat.reduceLeDiff, reduceIte, reduceCtorEq, Int.lt_irrefl, Nat.reduceMod, Nat.reduceBEq, eq_self, false_and, and_false, hw0, hm1, hm2, hm3, hm4, hs, hz', hz2, hwz, hlt, hlt', Int.natCast_nonneg, hst, hb3, hb4, hle, hmp, hll])
          | (refine gd_t (fun h => ?_) (fun h => ?_) <;> (try simp only [h, go_sem, Nat.reduceLT, Nat.reduceEqDiff, Nat.reduceAdd, Nat.reduceSub, Nat.reduceMul, Nat.reduceLeDiff, reduceIte, reduceCtorEq, Int.lt_irrefl, Nat.reduceMod, Nat.reduceBEq, eq_self, false_and, and_false, hw0, hm1, hm2, hm3, hm4, hs, hz', hz2, hwz, hlt, hlt', Int.natCast_nonneg, hst, hb3, hb4, hle, hmp, hll]))
          | (refine gd_f (fun h => ?_) (fun h => ?_) <;> (try simp only [h, go_sem, Nat.reduceLT, Nat.reduceEqDiff, Nat.reduceAdd, Nat.reduceSub, Nat.reduceMul, Nat.reduceLeDiff, reduceIte, reduceCtorEq, Int.lt_irrefl, Nat.reduceMod, Nat.reduceBEq, eq_self, false_and, and_false, hw0, hm1, hm2, hm3, hm4, hs, hz', hz2, hwz, hlt, hlt', Int.natCast_nonneg, hst, hb3, hb4, hle, hmp, hll]))
          | refine wpA_block ?_
          | (refine wpA_fz 5 rfl ?_; simp only [go_sem, Nat.reduceLT, Nat.reduceEqDiff, Nat.reduceAdd, Nat.reduceSub, Nat.reduceMul, Nat.reduceLeDiff, reduceIte, reduceCtorEq, Int.lt_irrefl, Nat.reduceMod, Nat.reduceBEq, eq_self, false_and, and_false, hw0, hm1, hm2, hm3, hm4, hs, hz', hz2, hwz, hlt, hlt', Int.natCast_nonneg, hst, hb3, hb4, hle, hmp, hll])
          | (refine wpA_fz 3 rfl ?_; simp only [go_sem, Nat.reduceLT, Nat.reduceEqDiff, Nat.reduceAdd, Nat.reduceSub, Nat.reduceMul, Nat.reduceLeDiff, reduceIte, reduceCtorEq, Int.lt_irrefl, Nat.reduceMod, Nat.reduceBEq, eq_self, false_and, and_false, hw0, hm1, hm2, hm3, hm4, hs, hz', hz2, hwz, hlt, hlt', Int.natCast_nonneg, hst, hb3, hb4, hle, hmp, hll])
          | (refine wpA_cond rfl (fun h => ?_) (fun h => ?_) <;> (try (cases h; done)))
          | (refine wpA_ret (fin_pure (.inl rfl) rfl (by simp only [go_sem, Nat.reduceLT, Nat.reduceEqDiff, Nat.reduceAdd, Nat.reduceSub, Nat.reduceMul, Nat.reduceLeDiff, reduceIte, reduceCtorEq, Int.lt_irrefl, Nat.reduceMod, Nat.reduceBEq, eq_self, false_and, and_false, hw0, hm1, hm2, hm3, hm4, hs, hz', hz2, hwz, hlt, hlt', Int.natCast_nonneg, hst, hb3, hb4, hle, hmp, hll]; rfl) ?_ (hW _)); (try simp only [go_sem, Nat.reduceLT, Nat.reduceEqDiff, Nat.reduceAdd, Nat.reduceSub, Nat.reduceMul, Nat.reduceLeDiff, reduceIte, reduceCtorEq, Int.lt_irrefl, Nat.reduceMod, Nat.reduceBEq, eq_self, false_and, and_false, hw0, hm1, hm2, hm3, hm4, hs, hz', hz2, hwz, hlt, hlt', Int.natCast_nonneg, hst, hb3, hb4, hle, hmp, hll]))
          | (refine wpA_ret (fin_pureM (.inl rfl) (by simp only [go_sem, Nat.reduceLT, Nat.reduceEqDiff, Nat.reduceAdd, Nat.reduceSub, Nat.reduceMul, Nat.reduceLeDiff, reduceIte, reduceCtorEq, Int.lt_irrefl, Nat.reduceMod, Nat.reduceBEq, eq_self, false_and, and_false]) (by simp only [go_sem, Nat.reduceLT, Nat.reduceEqDiff, Nat.reduceAdd, Nat.reduceSub, Nat.reduceMul, Nat.reduceLeDiff, reduceIte, reduceCtorEq, Int.lt_irrefl, Nat.reduceMod, Nat.reduceBEq, eq_self, false_and, and_false, hw0, hm1, hm2, hm3, hm4, hs, hz', hz2, hwz, hlt, hlt', Int.natCast_nonneg, hst, hb3, hb4, hle, hmp, hll]; rfl) ?_ (hW _)); (try simp only [go_sem, Nat.reduceLT, Nat.reduceEqDiff, Nat.reduceAdd, Nat.reduceSub, Nat.reduceMul, Nat.reduceLeDiff, reduceIte, reduceCtorEq, Int.lt_irrefl, Nat.reduceMod, Nat.reduceBEq, eq_self, false_and, and_false, hw0, hm1, hm2, hm3, hm4, hs, hz', hz2, hwz, hlt, hlt', Int.natCast_nonneg, hst, hb3, hb4, hle, hmp, hll]))
          | (refine ⟨_, [], [], PureE.call (Clone_spec puts hp1) (by first | (simp; done) | (simp [hpF_add, hpF_lo]; done) | exact need_hp htop hn | exact need_hp2 htop hn), ?_⟩; (try simp only [go_sem, Nat.reduceLT, Nat.reduceEqDiff, Nat.reduceAdd, Nat.reduceSub, Nat.reduceMul, Nat.reduceLeDiff, reduceIte, reduceCtorEq, Int.lt_irrefl, Nat.reduceMod, Nat.reduceBEq, eq_self, false_and, and_false, hw0, hm1, hm2, hm3, hm4, hs, hz', hz2, hwz, hlt, hlt', Int.natCast_nonneg, hst, hb3, hb4, hle, hmp, hll]))
          | (refine ⟨_, _, [], PureE.toS (Clone_spec puts hp1), by first | (simp; done) | (simp [hpF_add, hpF_lo]; done) | exact need_hp htop hn | exact need_hp2 htop hn, by simp, ?_⟩; (try simp only [go_sem, Nat.reduceLT, Nat.reduceEqDiff, Nat.reduceAdd, Nat.reduceSub, Nat.reduceMul, Nat.reduceLeDiff, reduceIte, reduceCtorEq, Int.lt_irrefl, Nat.reduceMod, Nat.reduceBEq, eq_self, false_and, and_false, hw0, hm1, hm2, hm3, hm4, hs, hz', hz2, hwz, hlt, hlt', Int.natCast_nonneg, hst, hb3, hb4, hle, hmp, hll]))
          | fail)
        rw [e2, List.map_append]; rfl
      · obtain ⟨g, hg, _, _⟩ := get_of_lt (l := t.frames.take (t.frames.length - 1)) (i := t.frames.length - 1 - 1) (by omega)
        have hz2 : (((t.frames.length - 1 : Nat) : Int) == 0) = false := by rw [beq_eq_false_iff_ne]; omega
        have hwy := wrapP (i := t.frames.length - 1) (n := t.frames.length) (by omega) hy (by omega)
        have hlt2 : t.frames.length - 1 - 1 < t.frames.length - 1 := by omega
        have hlt2' : ((t.frames.length - 1 - 1 : Nat) : Int) < ((t.frames.length - 1 : Nat) : Int) := by omega
        have hlg : lastF (t.frames.take (t.frames.length - 1)) = some g := by rw [lastF, hll]; exact hg
        repeat' (first
          | refine wpA_seq ?_
          | refine wpA_skip ?_
          | (refine wpA_exit ?_)
          | (refine hK _ _ ?_; clear hK K)
          | (refine hK _ _ rfl ?_; clear hK K)
          | (refine wpA_reg hT hE fun K hK => ?_; simp only [go_sem, Nat.reduceLT, Nat.reduceEqDiff, Nat.reduceAdd, Nat.reduceSub, Nat.reduceMul, Nat.reduceLeDiff, reduceIte, reduceCtorEq, Int.lt_irrefl, Nat.reduceMod, Nat.reduceBEq, eq_self, false_and, and_false, hw0, hm1, hm2, hm3, hm4, hs, hz', hz2, hwz, hlt, hlt', Int.natCast_nonneg, hst, hb3, hb4, hle, hmp, hll, hg, hwy, hlt2, hlt2'])
          | (refine wpA_drw hT hE hmix (by kernel_rfl) fun K hK => ?_; simp only [go_sem, Nat.reduceLT, Nat.reduceEqDiff, Nat.reduceAdd, Nat.reduceSub, Nat.reduceMul, Nat.reduceLeDiff, reduceIte, reduceCtorEq, Int.lt_irrefl, Nat.reduceMod, Nat.reduceBEq, eq_self, false_and, and_false, hw0, hm1, hm2, hm3, hm4, hs, hz', hz2, hwz, hlt, hlt', Int.natCast_nonneg, hst, hb3, hb4, hle, hmp, hll, hg, hwy, hlt2, hlt2'])
          | (refine gd_t (fun h => ?_) (fun h => ?_) <;> (try simp only [h, go_sem, Nat.reduceLT, Nat.reduceEqDiff, Nat.reduceAdd, Nat.reduceSub, Nat.reduceMul, Nat.reduceLeDiff, reduceIte, reduceCtorEq, Int.lt_irrefl, Nat.reduceMod, Nat.reduceBEq, eq_self, false_and, and_false, hw0, hm1, hm2, hm3, hm4, hs, hz', hz2, hwz, hlt, hlt', Int.natCast_nonneg, hst, hb3, hb4, hle, hmp, hll, hg, hwy, hlt2, hlt2']))
          | (refine gd_f (fun h => ?_) (fun h => ?_) <;> (try simp only [h, go_sem, Nat.reduceLT, Nat.reduceEqDiff, Nat.reduceAdd, Nat.reduceSub, Nat.reduceMul, Nat.reduceLeDiff, reduceIte, reduceCtorEq, Int.lt_irrefl, Nat.reduceMod, Nat.reduceBEq, eq_self, false_and, and_false, hw0, hm1, hm2, hm3, hm4, hs, hz', hz2, hwz, hlt, hlt', Int.natCast_nonneg, hst, hb3, hb4, hle, hmp, hll, hg, hwy, hlt2, hlt2']))
          | refine wpA_block ?_
          | (refine wpA_fz 5 rfl ?_; simp only [go_sem, Nat.reduceLT, Nat.reduceEqDiff, Nat.reduceAdd, Nat.reduceSub, Nat.reduceMul, Nat.reduceLeDiff, reduceIte, reduceCtorEq, Int.lt_irrefl, Nat.reduceMod, Nat.reduceBEq, eq_self, false_and, and_false, hw0, hm1, hm2, hm3, hm4, hs, hz', hz2, hwz, hlt, hlt', Int.natCast_nonneg, hst, hb3, hb4, hle, hmp, hll, hg, hwy, hlt2, hlt2'])
          | (refine wpA_fz 3 rfl ?_; simp only [go_sem, Nat.reduceLT, Nat.reduceEqDiff, Nat.reduceAdd, Nat.reduceSub, Nat.reduceMul, Nat.reduceLeDiff, reduceIte, reduceCtorEq, Int.lt_irrefl, Nat.reduceMod, Nat.reduceBEq, eq_self, false_and, and_false, hw0, hm1, hm2, hm3, hm4, hs, hz', hz2, hwz, hlt, hlt', Int.natCast_nonneg, hst, hb3, hb4, hle, hmp, hll, hg, hwy, hlt2, hlt2'])
          | (refine wpA_cond rfl (fun h => ?_) (fun h => ?_) <;> (try (cases h; done)))
          | (refine wpA_ret (fin_pure (.inl rfl) rfl (by simp only [go_sem, Nat.reduceLT, Nat.reduceEqDiff, Nat.reduceAdd, Nat.reduceSub, Nat.reduceMul, Nat.reduceLeDiff, reduceIte, reduceCtorEq, Int.lt_irrefl, Nat.reduceMod, Nat.reduceBEq, eq_self, false_and, and_false, hw0, hm1, hm2, hm3, hm4, hs, hz', hz2, hwz, hlt, hlt', Int.natCast_nonneg, hst, hb3, hb4, hle, hmp, hll, hg, hwy, hlt2, hlt2']; rfl) ?_ (hW _)); (try simp only [go_sem, Nat.reduceLT, Nat.reduceEqDiff, Nat.reduceAdd, Nat.reduceSub, Nat.reduceMul, Nat.reduceLeDiff, reduceIte, reduceCtorEq, Int.lt_irrefl, Nat.reduceMod, Nat.reduceBEq, eq_self, false_and, and_false, hw0, hm1, hm2, hm3, hm4, hs, hz', hz2, hwz, hlt, hlt', Int.natCast_nonneg, hst, hb3, hb4, hle, hmp, hll, hg, hwy, hlt2, hlt2']))
          | (refine wpA_ret (fin_pureM (.inl rfl) (by simp only [go_sem, Nat.reduceLT, Nat.reduceEqDiff, Nat.reduceAdd, Nat.reduceSub, Nat.reduceMul, Nat.reduceLeDiff, reduceIte, reduceCtorEq, Int.lt_irrefl, Nat.reduceMod, Nat.reduceBEq, eq_self, false_and, and_false]) (by simp only [go_sem, Nat.reduceLT, Nat.reduceEqDiff, Nat.reduceAdd, Nat.reduceSub, Nat.reduceMul, Nat.reduceLeDiff, reduceIte, reduceCtorEq, Int.lt_irrefl, Nat.reduceMod, Nat.reduceBEq, eq_self, false_and, and_false, hw0, hm1, hm2, hm3, hm4, hs, hz', hz2, hwz, hlt, hlt', Int.natCast_nonneg, hst, hb3, hb4, hle, hmp, hll, hg, hwy, hlt2, hlt2']; rfl) ?_ (hW _)); (try simp only [go_sem, Nat.reduceLT, Nat.reduceEqDiff, Nat.reduceAdd, Nat.reduceSub, Nat.reduceMul, Nat.reduceLeDiff, reduceIte, reduceCtorEq, Int.lt_irrefl, Nat.reduceMod, Nat.reduceBEq, eq_self, false_and, and_false, hw0, hm1, hm2, hm3, hm4, hs, hz', hz2, hwz, hlt, hlt', Int.natCast_nonneg, hst, hb3, hb4, hle, hmp, hll, hg, hwy, hlt2, hlt2']))
          | (refine ⟨_, [], [], PureE.call (Clone_spec puts hp1) (by first | (simp; done) | (simp [hpF_add, hpF_lo]; done) | exact need_hp htop hn | exact need_hp2 htop hn), ?_⟩; (try simp only [go_sem, Nat.reduceLT, Nat.reduceEqDiff, Nat.reduceAdd, Nat.reduceSub, Nat.reduceMul, Nat.reduceLeDiff, reduceIte, reduceCtorEq, Int.lt_irrefl, Nat.reduceMod, Nat.reduceBEq, eq_self, false_and, and_false, hw0, hm1, hm2, hm3, hm4, hs, hz', hz2, hwz, hlt, hlt', Int.natCast_nonneg, hst, hb3, hb4, hle, hmp, hll, hg, hwy, hlt2, hlt2']))
          | (refine ⟨_, _, [], PureE.toS (Clone_spec puts hp1), by first | (simp; done) | (simp [hpF_add, hpF_lo]; done) | exact need_hp htop hn | exact need_hp2 htop hn, by simp, ?_⟩; (try simp only [go_sem, Nat.reduceLT, Nat.reduceEqDiff, Nat.reduceAdd, Nat.reduceSub, Nat.reduceMul, Nat.reduceLeDiff, reduceIte, reduceCtorEq, Int.lt_irrefl, Nat.reduceMod, Nat.reduceBEq, eq_self, false_and, and_false, hw0, hm1, hm2, hm3, hm4, hs, hz', hz2, hwz, hlt, hlt', Int.natCast_nonneg, hst, hb3, hb4, hle, hmp, hll, hg, hwy, hlt2, hlt2']))
          | (refine ⟨_, [], [], PureE.call (alike_spec g.puts puts) (by first | (simp; done) | (simp [hpF_add, hpF_lo]; done) | exact need_hp htop hn | exact need_hp2 htop hn), ?_⟩; (try simp only [go_sem, Nat.reduceLT, Nat.reduceEqDiff, Nat.reduceAdd, Nat.reduceSub, Nat.reduceMul, Nat.reduceLeDiff, reduceIte, reduceCtorEq, Int.lt_irrefl, Nat.reduceMod, Nat.reduceBEq, eq_self, false_and, and_false, hw0, hm1, hm2, hm3, hm4, hs, hz', hz2, hwz, hlt, hlt', Int.natCast_nonneg, hst, hb3, hb4, hle, hmp, hll, hg, hwy, hlt2, hlt2']))
          | (refine ⟨_, _, [], PureE.toS (alike_spec g.puts puts), by first | (simp; done) | (simp [hpF_add, hpF_lo]; done) | exact need_hp htop hn | exact need_hp2 htop hn, by simp, ?_⟩; (try simp only [go_sem, Nat.reduceLT, Nat.reduceEqDiff, Nat.reduceAdd, Nat.reduceSub, Nat.reduceMul, Nat.reduceLeDiff, reduceIte, reduceCtorEq, Int.lt_irrefl, Nat.reduceMod, Nat.reduceBEq, eq_self, false_and, and_false, hw0, hm1, hm2, hm3, hm4, hs, hz', hz2, hwz, hlt, hlt', Int.natCast_nonneg, hst, hb3, hb4, hle, hmp, hll, hg, hwy, hlt2, hlt2']))
          | fail)
        · have h' : decide (g.puts = puts) = false := by simpa using h
          have e2 : withF t puts = ⟨t.frames.take (t.frames.length - 1) ++ [⟨t.fin, puts⟩], t.fin⟩ := by rw [withF, e]; simp only [putLast, hlg, h']; rfl
          rw [e2, List.map_append]; rfl
        · have h' : decide (g.puts = puts) = true := by simpa using h
          have e2 : withF t puts = ⟨t.frames.take (t.frames.length - 1), t.fin⟩ := by rw [withF, e]; simp only [putLast, hlg, h']; rfl
          rw [e2]

/-- 'Add' and its error. -/
def addF (t : Trace) (now : Int) (puts : List Put) : Trace × Int :=
  if right t = false then (noTrace, 330)
  else if (!timeOK now || (decide (now < t.fin) || !picF [] puts)) = true then (noTrace, 2)
  else if (withF ⟨t.frames, now⟩ puts).frames.length > 4000 then (noTrace, 6)
  else (withF ⟨t.frames, now⟩ puts, 0)
theorem Add_spec (t : Trace) (now : Int) (puts : List Put) : PureE Try.prog 12 [aTrace t, .v (.int .i64 now), .sl (puts.map aPut)] [] (aPass (addF t now puts)) := by
  intro F b hn
  refine callE_of hT (fn := Try.f12) rfl rfl rfl (by simp [fnt]) (by simp) fun htop hW => ?_
  have herr : (errT (right t) != 0) = !right t := by cases right t <;> rfl
  cases hr : right t with
  | false =>
    rw [hr] at herr
    repeat' (first
      | refine wpA_seq ?_
      | refine wpA_skip ?_
      | (refine wpA_exit ?_)
      | (refine hK _ _ ?_; clear hK K)
      | (refine hK _ _ rfl ?_; clear hK K)
      | (refine wpA_reg hT hE fun K hK => ?_; simp only [go_sem, Nat.reduceLT, Nat.reduceEqDiff, Nat.reduceAdd, Nat.reduceSub, Nat.reduceMul, Nat.reduceLeDiff, reduceIte, reduceCtorEq, Int.lt_irrefl, Nat.reduceMod, Nat.reduceBEq, eq_self, false_and, and_false, hr, herr, Bool.not_false])
      | (refine wpA_drw hT hE hmix (by kernel_rfl) fun K hK => ?_; simp only [go_sem, Nat.reduceLT, Nat.reduceEqDiff, Nat.reduceAdd, Nat.reduceSub, Nat.reduceMul, Nat.reduceLeDiff, reduceIte, reduceCtorEq, Int.lt_irrefl, Nat.reduceMod, Nat.reduceBEq, eq_self, false_and, and_false, hr, herr, Bool.not_false])
      | (refine gd_t (fun h => ?_) (fun h => ?_) <;> (try simp only [h, go_sem, Nat.reduceLT, Nat.reduceEqDiff, Nat.reduceAdd, Nat.reduceSub, Nat.reduceMul, Nat.reduceLeDiff, reduceIte, reduceCtorEq, Int.lt_irrefl, Nat.reduceMod, Nat.reduceBEq, eq_self, false_and, and_false, hr, herr, Bool.not_false]))
      | (refine gd_f (fun h => ?_) (fun h => ?_) <;> (try simp only [h, go_sem, Nat.reduceLT, Nat.reduceEqDiff, Nat.reduceAdd, Nat.reduceSub, Nat.reduceMul, Nat.reduceLeDiff, reduceIte, reduceCtorEq, Int.lt_irrefl, Nat.reduceMod, Nat.reduceBEq, eq_self, false_and, and_false, hr, herr, Bool.not_false]))
      | refine wpA_block ?_
      | (refine wpA_cond rfl (fun h => ?_) (fun h => ?_) <;> (try (cases h; done)))
      | (refine wpA_ret (fin_pure (.inl rfl) rfl (by simp only [go_sem, Nat.reduceLT, Nat.reduceEqDiff, Nat.reduceAdd, Nat.reduceSub, Nat.reduceMul, Nat.reduceLeDiff, reduceIte, reduceCtorEq, Int.lt_irrefl, Nat.reduceMod, Nat.reduceBEq, eq_self, false_and, and_false, hr, herr, Bool.not_false]; rfl) ?_ (hW _)); (try simp only [go_sem, Nat.reduceLT, Nat.reduceEqDiff, Nat.reduceAdd, Nat.reduceSub, Nat.reduceMul, Nat.reduceLeDiff, reduceIte, reduceCtorEq, Int.lt_irrefl, Nat.reduceMod, Nat.reduceBEq, eq_self, false_and, and_false, hr, herr, Bool.not_false]))
      | (refine wpA_ret (fin_pureM (.inl rfl) (by simp only [go_sem, Nat.reduceLT, Nat.reduceEqDiff, Nat.reduceAdd, Nat.reduceSub, Nat.reduceMul, Nat.reduceLeDiff, reduceIte, reduceCtorEq, Int.lt_irrefl, Nat.reduceMod, Nat.reduceBEq, eq_self, false_and, and_false]) (by simp only [go_sem, Nat.reduceLT, Nat.reduceEqDiff, Nat.reduceAdd, Nat.reduceSub, Nat.reduceMul, Nat.reduceLeDiff, reduceIte, reduceCtorEq, Int.lt_irrefl, Nat.reduceMod, Nat.reduceBEq, eq_self, false_and, and_false, hr, herr, Bool.not_false]; rfl) ?_ (hW _)); (try simp only [go_sem, Nat.reduceLT, Nat.reduceEqDiff, Nat.reduceAdd, Nat.reduceSub, Nat.reduceMul, Nat.reduceLeDiff, reduceIte, reduceCtorEq, Int.lt_irrefl, Nat.reduceMod, Nat.reduceBEq, eq_self, false_and, and_false, hr, herr, Bool.not_false]))
      | (refine ⟨_, [], [], PureE.call (Check_spec t) (by first | (simp; done) | (simp [hpF_add, hpF_lo]; done) | exact need_hp htop hn | exact need_hp2 htop hn), ?_⟩; (try simp only [go_sem, Nat.reduceLT, Nat.reduceEqDiff, Nat.reduceAdd, Nat.reduceSub, Nat.reduceMul, Nat.reduceLeDiff, reduceIte, reduceCtorEq, Int.lt_irrefl, Nat.reduceMod, Nat.reduceBEq, eq_self, false_and, and_false, hr, herr, Bool.not_false]))
      | (refine ⟨_, _, [], PureE.toS (Check_spec t), by first | (simp; done) | (simp [hpF_add, hpF_lo]; done) | exact need_hp htop hn | exact need_hp2 htop hn, by simp, ?_⟩; (try simp only [go_sem, Nat.reduceLT, Nat.reduceEqDiff, Nat.reduceAdd, Nat.reduceSub, Nat.reduceMul, Nat.reduceLeDiff, reduceIte, reduceCtorEq, Int.lt_irrefl, Nat.reduceMod, Nat.reduceBEq, eq_self, false_and, and_false, hr, herr, Bool.not_false]))
      | fail)
    simp [addF, hr, noTrace]
  | true =>
    have hl := right_len hr
    rw [hr] at herr
    cases hpic : picF [] puts with
    | false =>
      repeat' (first
        | refine wpA_seq ?_
        | refine wpA_skip ?_
        | (refine wpA_exit ?_)
        | (refine hK _ _ ?_; clear hK K)
        | (refine hK _ _ rfl ?_; clear hK K)
        | (refine wpA_reg hT hE fun K hK => ?_; simp only [go_sem, Nat.reduceLT, Nat.reduceEqDiff, Nat.reduceAdd, Nat.reduceSub, Nat.reduceMul, Nat.reduceLeDiff, reduceIte, reduceCtorEq, Int.lt_irrefl, Nat.reduceMod, Nat.reduceBEq, eq_self, false_and, and_false, hr, herr, Bool.not_true, hpic])
        | (refine wpA_drw hT hE hmix (by kernel_rfl) fun K hK => ?_; simp only [go_sem, Nat.reduceLT, Nat.reduceEqDiff, Nat.reduceAdd, Nat.reduceSub, Nat.reduceMul, Nat.reduceLeDiff, reduceIte, reduceCtorEq, Int.lt_irrefl, Nat.reduceMod, Nat.reduceBEq, eq_self, false_and, and_false, hr, herr, Bool.not_true, hpic])
        | (refine gd_t (fun h => ?_) (fun h => ?_) <;> (try simp only [h, go_sem, Nat.reduceLT, Nat.reduceEqDiff, Nat.reduceAdd, Nat.reduceSub, Nat.reduceMul, Nat.reduceLeDiff, reduceIte, reduceCtorEq, Int.lt_irrefl, Nat.reduceMod, Nat.reduceBEq, eq_self, false_and, and_false, hr, herr, Bool.not_true, hpic]))
        | (refine gd_f (fun h => ?_) (fun h => ?_) <;> (try simp only [h, go_sem, Nat.reduceLT, Nat.reduceEqDiff, Nat.reduceAdd, Nat.reduceSub, Nat.reduceMul, Nat.reduceLeDiff, reduceIte, reduceCtorEq, Int.lt_irrefl, Nat.reduceMod, Nat.reduceBEq, eq_self, false_and, and_false, hr, herr, Bool.not_true, hpic]))
        | refine wpA_block ?_
        | (refine wpA_cond rfl (fun h => ?_) (fun h => ?_) <;> (try (cases h; done)))
        | (refine wpA_ret (fin_pure (.inl rfl) rfl (by simp only [go_sem, Nat.reduceLT, Nat.reduceEqDiff, Nat.reduceAdd, Nat.reduceSub, Nat.reduceMul, Nat.reduceLeDiff, reduceIte, reduceCtorEq, Int.lt_irrefl, Nat.reduceMod, Nat.reduceBEq, eq_self, false_and, and_false, hr, herr, Bool.not_true, hpic]; rfl) ?_ (hW _)); (try simp only [go_sem, Nat.reduceLT, Nat.reduceEqDiff, Nat.reduceAdd, Nat.reduceSub, Nat.reduceMul, Nat.reduceLeDiff, reduceIte, reduceCtorEq, Int.lt_irrefl, Nat.reduceMod, Nat.reduceBEq, eq_self, false_and, and_false, hr, herr, Bool.not_true, hpic]))
        | (refine wpA_ret (fin_pureM (.inl rfl) (by simp only [go_sem, Nat.reduceLT, Nat.reduceEqDiff, Nat.reduceAdd, Nat.reduceSub, Nat.reduceMul, Nat.reduceLeDiff, reduceIte, reduceCtorEq, Int.lt_irrefl, Nat.reduceMod, Nat.reduceBEq, eq_self, false_and, and_false]) (by simp only [go_sem, Nat.reduceLT, Nat.reduceEqDiff, Nat.reduceAdd, Nat.reduceSub, Nat.reduceMul, Nat.reduceLeDiff, reduceIte, reduceCtorEq, Int.lt_irrefl, Nat.reduceMod, Nat.reduceBEq, eq_self, false_and, and_false, hr, herr, Bool.not_true, hpic]; rfl) ?_ (hW _)); (try simp only [go_sem, Nat.reduceLT, Nat.reduceEqDiff, Nat.reduceAdd, Nat.reduceSub, Nat.reduceMul, Nat.reduceLeDiff, reduceIte, reduceCtorEq, Int.lt_irrefl, Nat.reduceMod, Nat.reduceBEq, eq_self, false_and, and_false, hr, herr, Bool.not_true, hpic]))
        | (refine ⟨_, [], [], PureE.call (Check_spec t) (by first | (simp; done) | (simp [hpF_add, hpF_lo]; done) | exact need_hp htop hn | exact need_hp2 htop hn), ?_⟩; (try simp only [go_sem, Nat.reduceLT, Nat.reduceEqDiff, Nat.reduceAdd, Nat.reduceSub, Nat.reduceMul, Nat.reduceLeDiff, reduceIte, reduceCtorEq, Int.lt_irrefl, Nat.reduceMod, Nat.reduceBEq, eq_self, false_and, and_false, hr, herr, Bool.not_true, hpic]))
        | (refine ⟨_, _, [], PureE.toS (Check_spec t), by first | (simp; done) | (simp [hpF_add, hpF_lo]; done) | exact need_hp htop hn | exact need_hp2 htop hn, by simp, ?_⟩; (try simp only [go_sem, Nat.reduceLT, Nat.reduceEqDiff, Nat.reduceAdd, Nat.reduceSub, Nat.reduceMul, Nat.reduceLeDiff, reduceIte, reduceCtorEq, Int.lt_irrefl, Nat.reduceMod, Nat.reduceBEq, eq_self, false_and, and_false, hr, herr, Bool.not_true, hpic]))
        | (refine ⟨_, [], [], PureE.call (time_spec now) (by first | (simp; done) | (simp [hpF_add, hpF_lo]; done) | exact need_hp htop hn | exact need_hp2 htop hn), ?_⟩; (try simp only [go_sem, Nat.reduceLT, Nat.reduceEqDiff, Nat.reduceAdd, Nat.reduceSub, Nat.reduceMul, Nat.reduceLeDiff, reduceIte, reduceCtorEq, Int.lt_irrefl, Nat.reduceMod, Nat.reduceBEq, eq_self, false_and, and_false, hr, herr, Bool.not_true, hpic]))
        | (refine ⟨_, _, [], PureE.toS (time_spec now), by first | (simp; done) | (simp [hpF_add, hpF_lo]; done) | exact need_hp htop hn | exact need_hp2 htop hn, by simp, ?_⟩; (try simp only [go_sem, Nat.reduceLT, Nat.reduceEqDiff, Nat.reduceAdd, Nat.reduceSub, Nat.reduceMul, Nat.reduceLeDiff, reduceIte, reduceCtorEq, Int.lt_irrefl, Nat.reduceMod, Nat.reduceBEq, eq_self, false_and, and_false, hr, herr, Bool.not_true, hpic]))
        | (refine ⟨_, [], [], PureE.call (picture_spec puts) (by first | (simp; done) | (simp [hpF_add, hpF_lo]; done) | exact need_hp htop hn | exact need_hp2 htop hn), ?_⟩; (try simp only [go_sem, Nat.reduceLT, Nat.reduceEqDiff, Nat.reduceAdd, Nat.reduceSub, Nat.reduceMul, Nat.reduceLeDiff, reduceIte, reduceCtorEq, Int.lt_irrefl, Nat.reduceMod, Nat.reduceBEq, eq_self, false_and, and_false, hr, herr, Bool.not_true, hpic]))
        | (refine ⟨_, _, [], PureE.toS (picture_spec puts), by first | (simp; done) | (simp [hpF_add, hpF_lo]; done) | exact need_hp htop hn | exact need_hp2 htop hn, by simp, ?_⟩; (try simp only [go_sem, Nat.reduceLT, Nat.reduceEqDiff, Nat.reduceAdd, Nat.reduceSub, Nat.reduceMul, Nat.reduceLeDiff, reduceIte, reduceCtorEq, Int.lt_irrefl, Nat.reduceMod, Nat.reduceBEq, eq_self, false_and, and_false, hr, herr, Bool.not_true, hpic]))
        | fail)
      all_goals simp_all [addF, noTrace]
    | true =>
      have hp := pic_len8 hpic
      repeat' (first
        | refine wpA_seq ?_
        | refine wpA_skip ?_
        | (refine wpA_exit ?_)
        | (refine hK _ _ ?_; clear hK K)
        | (refine hK _ _ rfl ?_; clear hK K)
        | (refine wpA_reg hT hE fun K hK => ?_; simp only [go_sem, Nat.reduceLT, Nat.reduceEqDiff, Nat.reduceAdd, Nat.reduceSub, Nat.reduceMul, Nat.reduceLeDiff, reduceIte, reduceCtorEq, Int.lt_irrefl, Nat.reduceMod, Nat.reduceBEq, eq_self, false_and, and_false, hr, herr, Bool.not_true, hpic])
        | (refine wpA_drw hT hE hmix (by kernel_rfl) fun K hK => ?_; simp only [go_sem, Nat.reduceLT, Nat.reduceEqDiff, Nat.reduceAdd, Nat.reduceSub, Nat.reduceMul, Nat.reduceLeDiff, reduceIte, reduceCtorEq, Int.lt_irrefl, Nat.reduceMod, Nat.reduceBEq, eq_self, false_and, and_false, hr, herr, Bool.not_true, hpic])
        | (refine gd_t (fun h => ?_) (fun h => ?_) <;> (try simp only [h, go_sem, Nat.reduceLT, Nat.reduceEqDiff, Nat.reduceAdd, Nat.reduceSub, Nat.reduceMul, Nat.reduceLeDiff, reduceIte, reduceCtorEq, Int.lt_irrefl, Nat.reduceMod, Nat.reduceBEq, eq_self, false_and, and_false, hr, herr, Bool.not_true, hpic]))
        | (refine gd_f (fun h => ?_) (fun h => ?_) <;> (try simp only [h, go_sem, Nat.reduceLT, Nat.reduceEqDiff, Nat.reduceAdd, Nat.reduceSub, Nat.reduceMul, Nat.reduceLeDiff, reduceIte, reduceCtorEq, Int.lt_irrefl, Nat.reduceMod, Nat.reduceBEq, eq_self, false_and, and_false, hr, herr, Bool.not_true, hpic]))
        | refine wpA_block ?_
        | (refine wpA_cond rfl (fun h => ?_) (fun h => ?_) <;> (try (cases h; done)))
        | (refine wpA_ret (fin_pure (.inl rfl) rfl (by simp only [go_sem, Nat.reduceLT, Nat.reduceEqDiff, Nat.reduceAdd, Nat.reduceSub, Nat.reduceMul, Nat.reduceLeDiff, reduceIte, reduceCtorEq, Int.lt_irrefl, Nat.reduceMod, Nat.reduceBEq, eq_self, false_and, and_false, hr, herr, Bool.not_true, hpic]; rfl) ?_ (hW _)); (try simp only [go_sem, Nat.reduceLT, Nat.reduceEqDiff, Nat.reduceAdd, Nat.reduceSub, Nat.reduceMul, Nat.reduceLeDiff, reduceIte, reduceCtorEq, Int.lt_irrefl, Nat.reduceMod, Nat.reduceBEq, eq_self, false_and, and_false, hr, herr, Bool.not_true, hpic]))
        | (refine wpA_ret (fin_pureM (.inl rfl) (by simp only [go_sem, Nat.reduceLT, Nat.reduceEqDiff, Nat.reduceAdd, Nat.reduceSub, Nat.reduceMul, Nat.reduceLeDiff, reduceIte, reduceCtorEq, Int.lt_irrefl, Nat.reduceMod, Nat.reduceBEq, eq_self, false_and, and_false]) (by simp only [go_sem, Nat.reduceLT, Nat.reduceEqDiff, Nat.reduceAdd, Nat.reduceSub, Nat.reduceMul, Nat.reduceLeDiff, reduceIte, reduceCtorEq, Int.lt_irrefl, Nat.reduceMod, Nat.reduceBEq, eq_self, false_and, and_false, hr, herr, Bool.not_true, hpic]; rfl) ?_ (hW _)); (try simp only [go_sem, Nat.reduceLT, Nat.reduceEqDiff, Nat.reduceAdd, Nat.reduceSub, Nat.reduceMul, Nat.reduceLeDiff, reduceIte, reduceCtorEq, Int.lt_irrefl, Nat.reduceMod, Nat.reduceBEq, eq_self, false_and, and_false, hr, herr, Bool.not_true, hpic]))
        | (refine ⟨_, [], [], PureE.call (Check_spec t) (by first | (simp; done) | (simp [hpF_add, hpF_lo]; done) | exact need_hp htop hn | exact need_hp2 htop hn), ?_⟩; (try simp only [go_sem, Nat.reduceLT, Nat.reduceEqDiff, Nat.reduceAdd, Nat.reduceSub, Nat.reduceMul, Nat.reduceLeDiff, reduceIte, reduceCtorEq, Int.lt_irrefl, Nat.reduceMod, Nat.reduceBEq, eq_self, false_and, and_false, hr, herr, Bool.not_true, hpic]))
        | (refine ⟨_, _, [], PureE.toS (Check_spec t), by first | (simp; done) | (simp [hpF_add, hpF_lo]; done) | exact need_hp htop hn | exact need_hp2 htop hn, by simp, ?_⟩; (try simp only [go_sem, Nat.reduceLT, Nat.reduceEqDiff, Nat.reduceAdd, Nat.reduceSub, Nat.reduceMul, Nat.reduceLeDiff, reduceIte, reduceCtorEq, Int.lt_irrefl, Nat.reduceMod, Nat.reduceBEq, eq_self, false_and, and_false, hr, herr, Bool.not_true, hpic]))
        | (refine ⟨_, [], [], PureE.call (time_spec now) (by first | (simp; done) | (simp [hpF_add, hpF_lo]; done) | exact need_hp htop hn | exact need_hp2 htop hn), ?_⟩; (try simp only [go_sem, Nat.reduceLT, Nat.reduceEqDiff, Nat.reduceAdd, Nat.reduceSub, Nat.reduceMul, Nat.reduceLeDiff, reduceIte, reduceCtorEq, Int.lt_irrefl, Nat.reduceMod, Nat.reduceBEq, eq_self, false_and, and_false, hr, herr, Bool.not_true, hpic]))
        | (refine ⟨_, _, [], PureE.toS (time_spec now), by first | (simp; done) | (simp [hpF_add, hpF_lo]; done) | exact need_hp htop hn | exact need_hp2 htop hn, by simp, ?_⟩; (try simp only [go_sem, Nat.reduceLT, Nat.reduceEqDiff, Nat.reduceAdd, Nat.reduceSub, Nat.reduceMul, Nat.reduceLeDiff, reduceIte, reduceCtorEq, Int.lt_irrefl, Nat.reduceMod, Nat.reduceBEq, eq_self, false_and, and_false, hr, herr, Bool.not_true, hpic]))
        | (refine ⟨_, [], [], PureE.call (picture_spec puts) (by first | (simp; done) | (simp [hpF_add, hpF_lo]; done) | exact need_hp htop hn | exact need_hp2 htop hn), ?_⟩; (try simp only [go_sem, Nat.reduceLT, Nat.reduceEqDiff, Nat.reduceAdd, Nat.reduceSub, Nat.reduceMul, Nat.reduceLeDiff, reduceIte, reduceCtorEq, Int.lt_irrefl, Nat.reduceMod, Nat.reduceBEq, eq_self, false_and, and_false, hr, herr, Bool.not_true, hpic]))
        | (refine ⟨_, _, [], PureE.toS (picture_spec puts), by first | (simp; done) | (simp [hpF_add, hpF_lo]; done) | exact need_hp htop hn | exact need_hp2 htop hn, by simp, ?_⟩; (try simp only [go_sem, Nat.reduceLT, Nat.reduceEqDiff, Nat.reduceAdd, Nat.reduceSub, Nat.reduceMul, Nat.reduceLeDiff, reduceIte, reduceCtorEq, Int.lt_irrefl, Nat.reduceMod, Nat.reduceBEq, eq_self, false_and, and_false, hr, herr, Bool.not_true, hpic]))
        | (refine ⟨_, [], [], PureE.call (with_spec ⟨t.frames, now⟩ puts hl hp) (by first | (simp; done) | (simp [hpF_add, hpF_lo]; done) | exact need_hp htop hn | exact need_hp2 htop hn), ?_⟩; (try simp only [go_sem, Nat.reduceLT, Nat.reduceEqDiff, Nat.reduceAdd, Nat.reduceSub, Nat.reduceMul, Nat.reduceLeDiff, reduceIte, reduceCtorEq, Int.lt_irrefl, Nat.reduceMod, Nat.reduceBEq, eq_self, false_and, and_false, hr, herr, Bool.not_true, hpic]))
        | (refine ⟨_, _, [], PureE.toS (with_spec ⟨t.frames, now⟩ puts hl hp), by first | (simp; done) | (simp [hpF_add, hpF_lo]; done) | exact need_hp htop hn | exact need_hp2 htop hn, by simp, ?_⟩; (try simp only [go_sem, Nat.reduceLT, Nat.reduceEqDiff, Nat.reduceAdd, Nat.reduceSub, Nat.reduceMul, Nat.reduceLeDiff, reduceIte, reduceCtorEq, Int.lt_irrefl, Nat.reduceMod, Nat.reduceBEq, eq_self, false_and, and_false, hr, herr, Bool.not_true, hpic]))
        | fail)
      · have h1 : (!timeOK now) = true := by assumption
        simp [addF, hr, hpic, h1, noTrace]
      · have h1 : decide (now < t.fin) = true := by assumption
        simp only [addF, hr, h1, noTrace, Bool.or_true, Bool.true_or]; rfl
      · have h1 : (!timeOK now) = false := by assumption
        have h2 : decide (now < t.fin) = false := by assumption
        have h3 : (withF ⟨t.frames, now⟩ puts).frames.length > 4000 := by
          have := of_decide_eq_true h
          omega
        simp only [addF, hr, h1, h2, hpic, if_pos h3, noTrace]; rfl
      · have h1 : (!timeOK now) = false := by assumption
        have h2 : decide (now < t.fin) = false := by assumption
        have h3 : ¬ (withF ⟨t.frames, now⟩ puts).frames.length > 4000 := by
          have := of_decide_eq_false h
          omega
        simp only [addF, hr, h1, h2, hpic, if_neg h3]; rfl
end Go.Proofs.Ythlmfkeeneeaoaa

namespace Go.Proofs.Ythlmfkeeneeaoaa
open Go Go.Av

def refAddG (t : Trace) (now : Int) (puts : List Put) : Trace × Int := match lastF t.frames with
    | none => (⟨t.frames ++ [⟨now, puts⟩], now⟩, 0)
    | some f => if decide (f.puts = puts) = true then (⟨t.frames, now⟩, 0)
      else if (f.time == now) = true then (match lastF (t.frames.take (t.frames.length - 1)) with
        | some g => if decide (g.puts = puts) = true then (⟨t.frames.take (t.frames.length - 1), now⟩, 0) else (⟨t.frames.take (t.frames.length - 1) ++ [⟨now, puts⟩], now⟩, 0)
        | none => (⟨t.frames.take (t.frames.length - 1) ++ [⟨now, puts⟩], now⟩, 0))
      else if (((t.frames.length : Nat) : Int) == 4000) = true then (noTrace, 6) else (⟨t.frames ++ [⟨now, puts⟩], now⟩, 0)
def refAddF (t : Trace) (now : Int) (puts : List Put) : Trace × Int :=
  if right t = false then (noTrace, 330)
  else if (!timeOK now || (decide (now < t.fin) || !picF [] puts)) = true then (noTrace, 2)
  else refAddG t now puts

set_option maxHeartbeats 4000000 in
theorem RefAdd_spec (t : Trace) (now : Int) (puts : List Put) : PureE Try.prog 14 [aTrace t, .v (.int .i64 now), .sl (puts.map aPut)] [] (aPass (refAddF t now puts)) := by
  intro F b hn
  refine callE_of hT (fn := Try.f14) rfl rfl rfl (by simp [fnt]) (by simp) fun htop hW => ?_
  cases hr : right t with
  | false =>
    repeat' (first
      | refine wpA_seq ?_
      | refine wpA_skip ?_
      | (refine wpA_exit ?_)
      | (refine hK _ _ ?_; clear hK K)
      | (refine hK _ _ rfl ?_; clear hK K)
      | (refine wpA_reg hT hE fun K hK => ?_; simp only [go_sem, Nat.reduceLT, Nat.reduceEqDiff, Nat.reduceAdd, Nat.reduceSub, Nat.reduceMul, Nat.reduceLeDiff, reduceIte, reduceCtorEq, Int.lt_irrefl, Nat.reduceMod, Nat.reduceBEq, eq_self, false_and, and_false, hr, Bool.not_false])
      | (refine wpA_drw hT hE hmix (by kernel_rfl) fun K hK => ?_; simp only [go_sem, Nat.reduceLT, Nat.reduceEqDiff, Nat.reduceAdd, Nat.reduceSub, Nat.reduceMul, Nat.reduceLeDiff, reduceIte, reduceCtorEq, Int.lt_irrefl, Nat.reduceMod, Nat.reduceBEq, eq_self, false_and, and_false, hr, Bool.not_false])
      | (refine gd_t (fun h => ?_) (fun h => ?_) <;> (try simp only [h, go_sem, Nat.reduceLT, Nat.reduceEqDiff, Nat.reduceAdd, Nat.reduceSub, Nat.reduceMul, Nat.reduceLeDiff, reduceIte, reduceCtorEq, Int.lt_irrefl, Nat.reduceMod, Nat.reduceBEq, eq_self, false_and, and_false, hr, Bool.not_false]))
      | (refine gd_f (fun h => ?_) (fun h => ?_) <;> (try simp only [h, go_sem, Nat.reduceLT, Nat.reduceEqDiff, Nat.reduceAdd, Nat.reduceSub, Nat.reduceMul, Nat.reduceLeDiff, reduceIte, reduceCtorEq, Int.lt_irrefl, Nat.reduceMod, Nat.reduceBEq, eq_self, false_and, and_false, hr, Bool.not_false]))
      | refine wpA_block ?_
      | (refine wpA_cond rfl (fun h => ?_) (fun h => ?_) <;> (try (cases h; done)))
      | (refine wpA_ret (fin_pure (.inl rfl) rfl (by simp only [go_sem, Nat.reduceLT, Nat.reduceEqDiff, Nat.reduceAdd, Nat.reduceSub, Nat.reduceMul, Nat.reduceLeDiff, reduceIte, reduceCtorEq, Int.lt_irrefl, Nat.reduceMod, Nat.reduceBEq, eq_self, false_and, and_false, hr, Bool.not_false]; rfl) ?_ (hW _)); (try simp only [go_sem, Nat.reduceLT, Nat.reduceEqDiff, Nat.reduceAdd, Nat.reduceSub, Nat.reduceMul, Nat.reduceLeDiff, reduceIte, reduceCtorEq, Int.lt_irrefl, Nat.reduceMod, Nat.reduceBEq, eq_self, false_and, and_false, hr, Bool.not_false]))
      | (refine wpA_ret (fin_pureM (.inl rfl) (by simp only [go_sem, Nat.reduceLT, Nat.reduceEqDiff, Nat.reduceAdd, Nat.reduceSub, Nat.reduceMul, Nat.reduceLeDiff, reduceIte, reduceCtorEq, Int.lt_irrefl, Nat.reduceMod, Nat.reduceBEq, eq_self, false_and, and_false]) (by simp only [go_sem, Nat.reduceLT, Nat.reduceEqDiff, Nat.reduceAdd, Nat.reduceSub, Nat.reduceMul, Nat.reduceLeDiff, reduceIte, reduceCtorEq, Int.lt_irrefl, Nat.reduceMod, Nat.reduceBEq, eq_self, false_and, and_false, hr, Bool.not_false]; rfl) ?_ (hW _)); (try simp only [go_sem, Nat.reduceLT, Nat.reduceEqDiff, Nat.reduceAdd, Nat.reduceSub, Nat.reduceMul, Nat.reduceLeDiff, reduceIte, reduceCtorEq, Int.lt_irrefl, Nat.reduceMod, Nat.reduceBEq, eq_self, false_and, and_false, hr, Bool.not_false]))
      | (refine ⟨_, [], [], PureE.call (Right_spec t) (by first | (simp; done) | (simp [hpF_add, hpF_lo]; done) | exact need_hp htop hn | exact need_hp2 htop hn), ?_⟩; (try simp only [go_sem, Nat.reduceLT, Nat.reduceEqDiff, Nat.reduceAdd, Nat.reduceSub, Nat.reduceMul, Nat.reduceLeDiff, reduceIte, reduceCtorEq, Int.lt_irrefl, Nat.reduceMod, Nat.reduceBEq, eq_self, false_and, and_false, hr, Bool.not_false]))
      | (refine ⟨_, _, [], PureE.toS (Right_spec t), by first | (simp; done) | (simp [hpF_add, hpF_lo]; done) | exact need_hp htop hn | exact need_hp2 htop hn, by simp, ?_⟩; (try simp only [go_sem, Nat.reduceLT, Nat.reduceEqDiff, Nat.reduceAdd, Nat.reduceSub, Nat.reduceMul, Nat.reduceLeDiff, reduceIte, reduceCtorEq, Int.lt_irrefl, Nat.reduceMod, Nat.reduceBEq, eq_self, false_and, and_false, hr, Bool.not_false]))
      | fail)
    simp [refAddF, hr, noTrace]
  | true =>
    have hl := right_len hr
    cases hbad : (!timeOK now || (decide (now < t.fin) || !picF [] puts)) with
    | true =>
      repeat' (first
        | refine wpA_seq ?_
        | refine wpA_skip ?_
        | (refine wpA_exit ?_)
        | (refine hK _ _ ?_; clear hK K)
        | (refine hK _ _ rfl ?_; clear hK K)
        | (refine wpA_reg hT hE fun K hK => ?_; simp only [go_sem, Nat.reduceLT, Nat.reduceEqDiff, Nat.reduceAdd, Nat.reduceSub, Nat.reduceMul, Nat.reduceLeDiff, reduceIte, reduceCtorEq, Int.lt_irrefl, Nat.reduceMod, Nat.reduceBEq, eq_self, false_and, and_false, hr, Bool.not_true])
        | (refine wpA_drw hT hE hmix (by kernel_rfl) fun K hK => ?_; simp only [go_sem, Nat.reduceLT, Nat.reduceEqDiff, Nat.reduceAdd, Nat.reduceSub, Nat.reduceMul, Nat.reduceLeDiff, reduceIte, reduceCtorEq, Int.lt_irrefl, Nat.reduceMod, Nat.reduceBEq, eq_self, false_and, and_false, hr, Bool.not_true])
        | (refine gd_t (fun h => ?_) (fun h => ?_) <;> (try simp only [h, go_sem, Nat.reduceLT, Nat.reduceEqDiff, Nat.reduceAdd, Nat.reduceSub, Nat.reduceMul, Nat.reduceLeDiff, reduceIte, reduceCtorEq, Int.lt_irrefl, Nat.reduceMod, Nat.reduceBEq, eq_self, false_and, and_false, hr, Bool.not_true]))
        | (refine gd_f (fun h => ?_) (fun h => ?_) <;> (try simp only [h, go_sem, Nat.reduceLT, Nat.reduceEqDiff, Nat.reduceAdd, Nat.reduceSub, Nat.reduceMul, Nat.reduceLeDiff, reduceIte, reduceCtorEq, Int.lt_irrefl, Nat.reduceMod, Nat.reduceBEq, eq_self, false_and, and_false, hr, Bool.not_true]))
        | refine wpA_block ?_
        | (refine wpA_cond rfl (fun h => ?_) (fun h => ?_) <;> (try (cases h; done)))
        | (refine wpA_ret (fin_pure (.inl rfl) rfl (by simp only [go_sem, Nat.reduceLT, Nat.reduceEqDiff, Nat.reduceAdd, Nat.reduceSub, Nat.reduceMul, Nat.reduceLeDiff, reduceIte, reduceCtorEq, Int.lt_irrefl, Nat.reduceMod, Nat.reduceBEq, eq_self, false_and, and_false, hr, Bool.not_true]; rfl) ?_ (hW _)); (try simp only [go_sem, Nat.reduceLT, Nat.reduceEqDiff, Nat.reduceAdd, Nat.reduceSub, Nat.reduceMul, Nat.reduceLeDiff, reduceIte, reduceCtorEq, Int.lt_irrefl, Nat.reduceMod, Nat.reduceBEq, eq_self, false_and, and_false, hr, Bool.not_true]))
        | (refine wpA_ret (fin_pureM (.inl rfl) (by simp only [go_sem, Nat.reduceLT, Nat.reduceEqDiff, Nat.reduceAdd, Nat.reduceSub, Nat.reduceMul, Nat.reduceLeDiff, reduceIte, reduceCtorEq, Int.lt_irrefl, Nat.reduceMod, Nat.reduceBEq, eq_self, false_and, and_false]) (by simp only [go_sem, Nat.reduceLT, Nat.reduceEqDiff, Nat.reduceAdd, Nat.reduceSub, Nat.reduceMul, Nat.reduceLeDiff, reduceIte, reduceCtorEq, Int.lt_irrefl, Nat.reduceMod, Nat.reduceBEq, eq_self, false_and, and_false, hr, Bool.not_true]; rfl) ?_ (hW _)); (try simp only [go_sem, Nat.reduceLT, Nat.reduceEqDiff, Nat.reduceAdd, Nat.reduceSub, Nat.reduceMul, Nat.reduceLeDiff, reduceIte, reduceCtorEq, Int.lt_irrefl, Nat.reduceMod, Nat.reduceBEq, eq_self, false_and, and_false, hr, Bool.not_true]))
        | (refine ⟨_, [], [], PureE.call (Right_spec t) (by first | (simp; done) | (simp [hpF_add, hpF_lo]; done) | exact need_hp htop hn | exact need_hp2 htop hn), ?_⟩; (try simp only [go_sem, Nat.reduceLT, Nat.reduceEqDiff, Nat.reduceAdd, Nat.reduceSub, Nat.reduceMul, Nat.reduceLeDiff, reduceIte, reduceCtorEq, Int.lt_irrefl, Nat.reduceMod, Nat.reduceBEq, eq_self, false_and, and_false, hr, Bool.not_true]))
        | (refine ⟨_, _, [], PureE.toS (Right_spec t), by first | (simp; done) | (simp [hpF_add, hpF_lo]; done) | exact need_hp htop hn | exact need_hp2 htop hn, by simp, ?_⟩; (try simp only [go_sem, Nat.reduceLT, Nat.reduceEqDiff, Nat.reduceAdd, Nat.reduceSub, Nat.reduceMul, Nat.reduceLeDiff, reduceIte, reduceCtorEq, Int.lt_irrefl, Nat.reduceMod, Nat.reduceBEq, eq_self, false_and, and_false, hr, Bool.not_true]))
        | (refine ⟨_, [], [], PureE.call (Time_spec now) (by first | (simp; done) | (simp [hpF_add, hpF_lo]; done) | exact need_hp htop hn | exact need_hp2 htop hn), ?_⟩; (try simp only [go_sem, Nat.reduceLT, Nat.reduceEqDiff, Nat.reduceAdd, Nat.reduceSub, Nat.reduceMul, Nat.reduceLeDiff, reduceIte, reduceCtorEq, Int.lt_irrefl, Nat.reduceMod, Nat.reduceBEq, eq_self, false_and, and_false, hr, Bool.not_true]))
        | (refine ⟨_, _, [], PureE.toS (Time_spec now), by first | (simp; done) | (simp [hpF_add, hpF_lo]; done) | exact need_hp htop hn | exact need_hp2 htop hn, by simp, ?_⟩; (try simp only [go_sem, Nat.reduceLT, Nat.reduceEqDiff, Nat.reduceAdd, Nat.reduceSub, Nat.reduceMul, Nat.reduceLeDiff, reduceIte, reduceCtorEq, Int.lt_irrefl, Nat.reduceMod, Nat.reduceBEq, eq_self, false_and, and_false, hr, Bool.not_true]))
        | (refine ⟨_, [], [], PureE.call (Picture_spec puts) (by first | (simp; done) | (simp [hpF_add, hpF_lo]; done) | exact need_hp htop hn | exact need_hp2 htop hn), ?_⟩; (try simp only [go_sem, Nat.reduceLT, Nat.reduceEqDiff, Nat.reduceAdd, Nat.reduceSub, Nat.reduceMul, Nat.reduceLeDiff, reduceIte, reduceCtorEq, Int.lt_irrefl, Nat.reduceMod, Nat.reduceBEq, eq_self, false_and, and_false, hr, Bool.not_true]))
        | (refine ⟨_, _, [], PureE.toS (Picture_spec puts), by first | (simp; done) | (simp [hpF_add, hpF_lo]; done) | exact need_hp htop hn | exact need_hp2 htop hn, by simp, ?_⟩; (try simp only [go_sem, Nat.reduceLT, Nat.reduceEqDiff, Nat.reduceAdd, Nat.reduceSub, Nat.reduceMul, Nat.reduceLeDiff, reduceIte, reduceCtorEq, Int.lt_irrefl, Nat.reduceMod, Nat.reduceBEq, eq_self, false_and, and_false, hr, Bool.not_true]))
        | fail)
      all_goals first
        | (rw [refAddF, if_neg (by rw [hr]; simp), if_pos hbad]; rfl)
        | (exfalso; simp_all; done)
        | skip
    | false =>
      have e0 : refAddF t now puts = refAddG t now puts := by rw [refAddF, if_neg (by rw [hr]; simp), if_neg (by rw [hbad]; simp)]
      simp only [Bool.or_eq_false_iff] at hbad
      obtain ⟨hb1, hb2, hb3⟩ := hbad
      have hb4 : (t.frames.length + 1) * 32 ≤ 140737488355328 := by omega
      have hb5 : t.frames.length ≤ 9223372036854775806 := by omega
      have hb6 : (t.frames.length - 1 + 1) * 32 ≤ 140737488355328 := by omega
      have hb7 : t.frames.length - 1 ≤ 9223372036854775806 := by omega
      rcases Nat.eq_zero_or_pos t.frames.length with hz | hz
      · have hz' : ¬ ((t.frames.length : Int) > 0) := by omega
        have hz2 : ((t.frames.length : Int) == 4000) = false := by rw [beq_eq_false_iff_ne]; omega
        have hnil : t.frames = [] := List.length_eq_zero_iff.1 hz
        have hla : lastF t.frames = none := by rw [hnil]; rfl
        have e1 : refAddG t now puts = (⟨t.frames ++ [⟨now, puts⟩], now⟩, 0) := by simp only [refAddG, hla]
        repeat' (first
          | (refine ⟨_, _, _, First_spec t t.frames.length (Nat.le_refl _) (by omega) _ _, ?_⟩; simp only [List.take_length]; simp only [Nat.add_assoc, go_sem, Nat.reduceLT, Nat.reduceEqDiff, Nat.reduceAdd, Nat.reduceSub, Nat.reduceMul, Nat.reduceLeDiff, reduceIte, reduceCtorEq, Int.lt_irrefl, Nat.reduceMod, Nat.reduceBEq, eq_self, false_and, and_false, hr, Bool.not_true, hb1, hb2, hb3, hz', hz2, hb4, hb5])
          | refine wpA_seq ?_
          | refine wpA_skip ?_
          | (refine wpA_exit ?_)
          | (refine hK _ _ ?_; clear hK K)
          | (refine hK _ _ rfl ?_; clear hK K)
          | (refine wpA_reg hT hE fun K hK => ?_; simp only [go_sem, Nat.reduceLT, Nat.reduceEqDiff, Nat.reduceAdd, Nat.reduceSub, Nat.reduceMul, Nat.reduceLeDiff, reduceIte, reduceCtorEq, Int.lt_irrefl, Nat.reduceMod, Nat.reduceBEq, eq_self, false_and, and_false, hr, Bool.not_true, hb1, hb2, hb3, hz', hz2, hb4, hb5])
          | (refine wpA_drw hT hE hmix (by kernel_rfl) fun K hK => ?_; simp only [go_sem, Nat.reduceLT, Nat.reduceEqDiff, Nat.reduceAdd, Nat.reduceSub, Nat.reduceMul, Nat.reduceLeDiff, reduceIte, reduceCtorEq, Int.lt_irrefl, Nat.reduceMod, Nat.reduceBEq, eq_self, false_and, and_false, hr, Bool.not_true, hb1, hb2, hb3, hz', hz2, hb4, hb5])
          | (refine gd_t (fun h => ?_) (fun h => ?_) <;> (try simp only [h, go_sem, Nat.reduceLT, Nat.reduceEqDiff, Nat.reduceAdd, Nat.reduceSub, Nat.reduceMul, Nat.reduceLeDiff, reduceIte, reduceCtorEq, Int.lt_irrefl, Nat.reduceMod, Nat.reduceBEq, eq_self, false_and, and_false, hr, Bool.not_true, hb1, hb2, hb3, hz', hz2, hb4, hb5]))
          | (refine gd_f (fun h => ?_) (fun h => ?_) <;> (try simp only [h, go_sem, Nat.reduceLT, Nat.reduceEqDiff, Nat.reduceAdd, Nat.reduceSub, Nat.reduceMul, Nat.reduceLeDiff, reduceIte, reduceCtorEq, Int.lt_irrefl, Nat.reduceMod, Nat.reduceBEq, eq_self, false_and, and_false, hr, Bool.not_true, hb1, hb2, hb3, hz', hz2, hb4, hb5]))
          | refine wpA_block ?_
          | (refine wpA_fz 4 rfl ?_; simp only [go_sem, Nat.reduceLT, Nat.reduceEqDiff, Nat.reduceAdd, Nat.reduceSub, Nat.reduceMul, Nat.reduceLeDiff, reduceIte, reduceCtorEq, Int.lt_irrefl, Nat.reduceMod, Nat.reduceBEq, eq_self, false_and, and_false, hr, Bool.not_true, hb1, hb2, hb3, hz', hz2, hb4, hb5])
          | (refine wpA_fz 2 rfl ?_; simp only [go_sem, Nat.reduceLT, Nat.reduceEqDiff, Nat.reduceAdd, Nat.reduceSub, Nat.reduceMul, Nat.reduceLeDiff, reduceIte, reduceCtorEq, Int.lt_irrefl, Nat.reduceMod, Nat.reduceBEq, eq_self, false_and, and_false, hr, Bool.not_true, hb1, hb2, hb3, hz', hz2, hb4, hb5])
          | (refine wpA_cond rfl (fun h => ?_) (fun h => ?_) <;> (try (cases h; done)))
          | (refine wpA_ret (fin_pure (.inl rfl) rfl (by simp only [go_sem, Nat.reduceLT, Nat.reduceEqDiff, Nat.reduceAdd, Nat.reduceSub, Nat.reduceMul, Nat.reduceLeDiff, reduceIte, reduceCtorEq, Int.lt_irrefl, Nat.reduceMod, Nat.reduceBEq, eq_self, false_and, and_false, hr, Bool.not_true, hb1, hb2, hb3, hz', hz2, hb4, hb5]; rfl) ?_ (hW _)); (try simp only [go_sem, Nat.reduceLT, Nat.reduceEqDiff, Nat.reduceAdd, Nat.reduceSub, Nat.reduceMul, Nat.reduceLeDiff, reduceIte, reduceCtorEq, Int.lt_irrefl, Nat.reduceMod, Nat.reduceBEq, eq_self, false_and, and_false, hr, Bool.not_true, hb1, hb2, hb3, hz', hz2, hb4, hb5]))
          | (refine wpA_ret (fin_pureM (.inl rfl) (by simp only [go_sem, Nat.reduceLT, Nat.reduceEqDiff, Nat.reduceAdd, Nat.reduceSub, Nat.reduceMul, Nat.reduceLeDiff, reduceIte, reduceCtorEq, Int.lt_irrefl, Nat.reduceMod, Nat.reduceBEq, eq_self, false_and, and_false]) (by simp only [go_sem, Nat.reduceLT, Nat.reduceEqDiff, Nat.reduceAdd, Nat.reduceSub, Nat.reduceMul, Nat.reduceLeDiff, reduceIte, reduceCtorEq, Int.lt_irrefl, Nat.reduceMod, Nat.reduceBEq, eq_self, false_and, and_false, hr, Bool.not_true, hb1, hb2, hb3, hz', hz2, hb4, hb5]; rfl) ?_ (hW _)); (try simp only [go_sem, Nat.reduceLT, Nat.reduceEqDiff, Nat.reduceAdd, Nat.reduceSub, Nat.reduceMul, Nat.reduceLeDiff, reduceIte, reduceCtorEq, Int.lt_irrefl, Nat.reduceMod, Nat.reduceBEq, eq_self, false_and, and_false, hr, Bool.not_true, hb1, hb2, hb3, hz', hz2, hb4, hb5]))
          | (refine ⟨_, [], [], PureE.call (Right_spec t) (by first | (simp; done) | (simp [hpF_add, hpF_lo]; done) | exact need_hp htop hn | exact need_hp2 htop hn), ?_⟩; (try simp only [go_sem, Nat.reduceLT, Nat.reduceEqDiff, Nat.reduceAdd, Nat.reduceSub, Nat.reduceMul, Nat.reduceLeDiff, reduceIte, reduceCtorEq, Int.lt_irrefl, Nat.reduceMod, Nat.reduceBEq, eq_self, false_and, and_false, hr, Bool.not_true, hb1, hb2, hb3, hz', hz2, hb4, hb5]))
          | (refine ⟨_, _, [], PureE.toS (Right_spec t), by first | (simp; done) | (simp [hpF_add, hpF_lo]; done) | exact need_hp htop hn | exact need_hp2 htop hn, by simp, ?_⟩; (try simp only [go_sem, Nat.reduceLT, Nat.reduceEqDiff, Nat.reduceAdd, Nat.reduceSub, Nat.reduceMul, Nat.reduceLeDiff, reduceIte, reduceCtorEq, Int.lt_irrefl, Nat.reduceMod, Nat.reduceBEq, eq_self, false_and, and_false, hr, Bool.not_true, hb1, hb2, hb3, hz', hz2, hb4, hb5]))
          | (refine ⟨_, [], [], PureE.call (Time_spec now) (by first | (simp; done) | (simp [hpF_add, hpF_lo]; done) | exact need_hp htop hn | exact need_hp2 htop hn), ?_⟩; (try simp only [go_sem, Nat.reduceLT, Nat.reduceEqDiff, Nat.reduceAdd, Nat.reduceSub, Nat.reduceMul, Nat.reduceLeDiff, reduceIte, reduceCtorEq, Int.lt_irrefl, Nat.reduceMod, Nat.reduceBEq, eq_self, false_and, and_false, hr, Bool.not_true, hb1, hb2, hb3, hz', hz2, hb4, hb5]))
          | (refine ⟨_, _, [], PureE.toS (Time_spec now), by first | (simp; done) | (simp [hpF_add, hpF_lo]; done) | exact need_hp htop hn | exact need_hp2 htop hn, by simp, ?_⟩; (try simp only [go_sem, Nat.reduceLT, Nat.reduceEqDiff, Nat.reduceAdd, Nat.reduceSub, Nat.reduceMul, Nat.reduceLeDiff, reduceIte, reduceCtorEq, Int.lt_irrefl, Nat.reduceMod, Nat.reduceBEq, eq_self, false_and, and_false, hr, Bool.not_true, hb1, hb2, hb3, hz', hz2, hb4, hb5]))
          | (refine ⟨_, [], [], PureE.call (Picture_spec puts) (by first | (simp; done) | (simp [hpF_add, hpF_lo]; done) | exact need_hp htop hn | exact need_hp2 htop hn), ?_⟩; (try simp only [go_sem, Nat.reduceLT, Nat.reduceEqDiff, Nat.reduceAdd, Nat.reduceSub, Nat.reduceMul, Nat.reduceLeDiff, reduceIte, reduceCtorEq, Int.lt_irrefl, Nat.reduceMod, Nat.reduceBEq, eq_self, false_and, and_false, hr, Bool.not_true, hb1, hb2, hb3, hz', hz2, hb4, hb5]))
          | (refine ⟨_, _, [], PureE.toS (Picture_spec puts), by first | (simp; done) | (simp [hpF_add, hpF_lo]; done) | exact need_hp htop hn | exact need_hp2 htop hn, by simp, ?_⟩; (try simp only [go_sem, Nat.reduceLT, Nat.reduceEqDiff, Nat.reduceAdd, Nat.reduceSub, Nat.reduceMul, Nat.reduceLeDiff, reduceIte, reduceCtorEq, Int.lt_irrefl, Nat.reduceMod, Nat.reduceBEq, eq_self, false_and, and_false, hr, Bool.not_true, hb1, hb2, hb3, hz', hz2, hb4, hb5]))
          | fail)
        rw [e0, e1, List.map_append]; rfl
      · obtain ⟨f, hf, _, _⟩ := get_of_lt (l := t.frames) (i := t.frames.length - 1) (by omega)
        have hla : lastF t.frames = some f := hf
        have hz' : ((t.frames.length : Int) > 0) := by omega
        have hwz := wrapP (i := t.frames.length) (n := t.frames.length + 1) (by omega) hz (by omega)
        have hll : (t.frames.take (t.frames.length - 1)).length = t.frames.length - 1 := by simp
        cases h1 : decide (f.puts = puts) with
        | true =>
          have e1 : refAddG t now puts = (⟨t.frames, now⟩, 0) := by simp only [refAddG, hla, h1]; rfl
          repeat' (first
            | (refine ⟨_, _, _, First_spec t t.frames.length (Nat.le_refl _) (by omega) _ _, ?_⟩; simp only [List.take_length]; simp only [Nat.add_assoc, go_sem, Nat.reduceLT, Nat.reduceEqDiff, Nat.reduceAdd, Nat.reduceSub, Nat.reduceMul, Nat.reduceLeDiff, reduceIte, reduceCtorEq, Int.lt_irrefl, Nat.reduceMod, Nat.reduceBEq, eq_self, false_and, and_false, hr, Bool.not_true, hb1, hb2, hb3, hz', hwz, hf, h1, Int.natCast_nonneg])
            | refine wpA_seq ?_
            | refine wpA_skip ?_
            | (refine wpA_exit ?_)
            | (refine hK _ _ ?_; clear hK K)
            | (refine hK _ _ rfl ?_; clear hK K)
            | (refine wpA_reg hT hE fun K hK => ?_; simp only [go_sem, Nat.reduceLT, Nat.reduceEqDiff, Nat.reduceAdd, Nat.reduceSub, Nat.reduceMul, Nat.reduceLeDiff, reduceIte, reduceCtorEq, Int.lt_irrefl, Nat.reduceMod, Nat.reduceBEq, eq_self, false_and, and_false, hr, Bool.not_true, hb1, hb2, hb3, hz', hwz, hf, h1, Int.natCast_nonneg])
            | (refine wpA_drw hT hE hmix (by kernel_rfl) fun K hK => ?_; simp only [go_sem, Nat.reduceLT, Nat.reduceEqDiff, Nat.reduceAdd, Nat.reduceSub, Nat.reduceMul, Nat.reduceLeDiff, reduceIte, reduceCtorEq, Int.lt_irrefl, Nat.reduceMod, Nat.reduceBEq, eq_self, false_and, and_false, hr, Bool.not_true, hb1, hb2, hb3, hz', hwz, hf, h1, Int.natCast_nonneg])
            | (refine gd_t (fun h => ?_) (fun h => ?_) <;> (try simp only [h, go_sem, Nat.reduceLT, Nat.reduceEqDiff, Nat.reduceAdd, Nat.reduceSub, Nat.reduceMul, Nat.reduceLeDiff, reduceIte, reduceCtorEq, Int.lt_irrefl, Nat.reduceMod, Nat.reduceBEq, eq_self, false_and, and_false, hr, Bool.not_true, hb1, hb2, hb3, hz', hwz, hf, h1, Int.natCast_nonneg]))
            | (refine gd_f (fun h => ?_) (fun h => ?_) <;> (try simp only [h, go_sem, Nat.reduceLT, Nat.reduceEqDiff, Nat.reduceAdd, Nat.reduceSub, Nat.reduceMul, Nat.reduceLeDiff, reduceIte, reduceCtorEq, Int.lt_irrefl, Nat.reduceMod, Nat.reduceBEq, eq_self, false_and, and_false, hr, Bool.not_true, hb1, hb2, hb3, hz', hwz, hf, h1, Int.natCast_nonneg]))
            | refine wpA_block ?_
            | (refine wpA_fz 4 rfl ?_; simp only [go_sem, Nat.reduceLT, Nat.reduceEqDiff, Nat.reduceAdd, Nat.reduceSub, Nat.reduceMul, Nat.reduceLeDiff, reduceIte, reduceCtorEq, Int.lt_irrefl, Nat.reduceMod, Nat.reduceBEq, eq_self, false_and, and_false, hr, Bool.not_true, hb1, hb2, hb3, hz', hwz, hf, h1, Int.natCast_nonneg])
            | (refine wpA_fz 2 rfl ?_; simp only [go_sem, Nat.reduceLT, Nat.reduceEqDiff, Nat.reduceAdd, Nat.reduceSub, Nat.reduceMul, Nat.reduceLeDiff, reduceIte, reduceCtorEq, Int.lt_irrefl, Nat.reduceMod, Nat.reduceBEq, eq_self, false_and, and_false, hr, Bool.not_true, hb1, hb2, hb3, hz', hwz, hf, h1, Int.natCast_nonneg])
            | (refine wpA_cond rfl (fun h => ?_) (fun h => ?_) <;> (try (cases h; done)))
            | (refine wpA_ret (fin_pure (.inl rfl) rfl (by simp only [go_sem, Nat.reduceLT, Nat.reduceEqDiff, Nat.reduceAdd, Nat.reduceSub, Nat.reduceMul, Nat.reduceLeDiff, reduceIte, reduceCtorEq, Int.lt_irrefl, Nat.reduceMod, Nat.reduceBEq, eq_self, false_and, and_false, hr, Bool.not_true, hb1, hb2, hb3, hz', hwz, hf, h1, Int.natCast_nonneg]; rfl) ?_ (hW _)); (try simp only [go_sem, Nat.reduceLT, Nat.reduceEqDiff, Nat.reduceAdd, Nat.reduceSub, Nat.reduceMul, Nat.reduceLeDiff, reduceIte, reduceCtorEq, Int.lt_irrefl, Nat.reduceMod, Nat.reduceBEq, eq_self, false_and, and_false, hr, Bool.not_true, hb1, hb2, hb3, hz', hwz, hf, h1, Int.natCast_nonneg]))
            | (refine wpA_ret (fin_pureM (.inl rfl) (by simp only [go_sem, Nat.reduceLT, Nat.reduceEqDiff, Nat.reduceAdd, Nat.reduceSub, Nat.reduceMul, Nat.reduceLeDiff, reduceIte, reduceCtorEq, Int.lt_irrefl, Nat.reduceMod, Nat.reduceBEq, eq_self, false_and, and_false]) (by simp only [go_sem, Nat.reduceLT, Nat.reduceEqDiff, Nat.reduceAdd, Nat.reduceSub, Nat.reduceMul, Nat.reduceLeDiff, reduceIte, reduceCtorEq, Int.lt_irrefl, Nat.reduceMod, Nat.reduceBEq, eq_self, false_and, and_false, hr, Bool.not_true, hb1, hb2, hb3, hz', hwz, hf, h1, Int.natCast_nonneg]; rfl) ?_ (hW _)); (try simp only [go_sem, Nat.reduceLT, Nat.reduceEqDiff, Nat.reduceAdd, Nat.reduceSub, Nat.reduceMul, Nat.reduceLeDiff, reduceIte, reduceCtorEq, Int.lt_irrefl, Nat.reduceMod, Nat.reduceBEq, eq_self, false_and, and_false, hr, Bool.not_true, hb1, hb2, hb3, hz', hwz, hf, h1, Int.natCast_nonneg]))
            | (refine ⟨_, [], [], PureE.call (Right_spec t) (by first | (simp; done) | (simp [hpF_add, hpF_lo]; done) | exact need_hp htop hn | exact need_hp2 htop hn), ?_⟩; (try simp only [go_sem, Nat.reduceLT, Nat.reduceEqDiff, Nat.reduceAdd, Nat.reduceSub, Nat.reduceMul, Nat.reduceLeDiff, reduceIte, reduceCtorEq, Int.lt_irrefl, Nat.reduceMod, Nat.reduceBEq, eq_self, false_and, and_false, hr, Bool.not_true, hb1, hb2, hb3, hz', hwz, hf, h1, Int.natCast_nonneg]))
            | (refine ⟨_, _, [], PureE.toS (Right_spec t), by first | (simp; done) | (simp [hpF_add, hpF_lo]; done) | exact need_hp htop hn | exact need_hp2 htop hn, by simp, ?_⟩; (try simp only [go_sem, Nat.reduceLT, Nat.reduceEqDiff, Nat.reduceAdd, Nat.reduceSub, Nat.reduceMul, Nat.reduceLeDiff, reduceIte, reduceCtorEq, Int.lt_irrefl, Nat.reduceMod, Nat.reduceBEq, eq_self, false_and, and_false, hr, Bool.not_true, hb1, hb2, hb3, hz', hwz, hf, h1, Int.natCast_nonneg]))
            | (refine ⟨_, [], [], PureE.call (Time_spec now) (by first | (simp; done) | (simp [hpF_add, hpF_lo]; done) | exact need_hp htop hn | exact need_hp2 htop hn), ?_⟩; (try simp only [go_sem, Nat.reduceLT, Nat.reduceEqDiff, Nat.reduceAdd, Nat.reduceSub, Nat.reduceMul, Nat.reduceLeDiff, reduceIte, reduceCtorEq, Int.lt_irrefl, Nat.reduceMod, Nat.reduceBEq, eq_self, false_and, and_false, hr, Bool.not_true, hb1, hb2, hb3, hz', hwz, hf, h1, Int.natCast_nonneg]))
            | (refine ⟨_, _, [], PureE.toS (Time_spec now), by first | (simp; done) | (simp [hpF_add, hpF_lo]; done) | exact need_hp htop hn | exact need_hp2 htop hn, by simp, ?_⟩; (try simp only [go_sem, Nat.reduceLT, Nat.reduceEqDiff, Nat.reduceAdd, Nat.reduceSub, Nat.reduceMul, Nat.reduceLeDiff, reduceIte, reduceCtorEq, Int.lt_irrefl, Nat.reduceMod, Nat.reduceBEq, eq_self, false_and, and_false, hr, Bool.not_true, hb1, hb2, hb3, hz', hwz, hf, h1, Int.natCast_nonneg]))
            | (refine ⟨_, [], [], PureE.call (Picture_spec puts) (by first | (simp; done) | (simp [hpF_add, hpF_lo]; done) | exact need_hp htop hn | exact need_hp2 htop hn), ?_⟩; (try simp only [go_sem, Nat.reduceLT, Nat.reduceEqDiff, Nat.reduceAdd, Nat.reduceSub, Nat.reduceMul, Nat.reduceLeDiff, reduceIte, reduceCtorEq, Int.lt_irrefl, Nat.reduceMod, Nat.reduceBEq, eq_self, false_and, and_false, hr, Bool.not_true, hb1, hb2, hb3, hz', hwz, hf, h1, Int.natCast_nonneg]))
            | (refine ⟨_, _, [], PureE.toS (Picture_spec puts), by first | (simp; done) | (simp [hpF_add, hpF_lo]; done) | exact need_hp htop hn | exact need_hp2 htop hn, by simp, ?_⟩; (try simp only [go_sem, Nat.reduceLT, Nat.reduceEqDiff, Nat.reduceAdd, Nat.reduceSub, Nat.reduceMul, Nat.reduceLeDiff, reduceIte, reduceCtorEq, Int.lt_irrefl, Nat.reduceMod, Nat.reduceBEq, eq_self, false_and, and_false, hr, Bool.not_true, hb1, hb2, hb3, hz', hwz, hf, h1, Int.natCast_nonneg]))
            | (refine ⟨_, [], [], PureE.call (SamePuts_spec f.puts puts) (by first | (simp; done) | (simp [hpF_add, hpF_lo]; done) | exact need_hp htop hn | exact need_hp2 htop hn), ?_⟩; (try simp only [go_sem, Nat.reduceLT, Nat.reduceEqDiff, Nat.reduceAdd, Nat.reduceSub, Nat.reduceMul, Nat.reduceLeDiff, reduceIte, reduceCtorEq, Int.lt_irrefl, Nat.reduceMod, Nat.reduceBEq, eq_self, false_and, and_false, hr, Bool.not_true, hb1, hb2, hb3, hz', hwz, hf, h1, Int.natCast_nonneg]))
            | (refine ⟨_, _, [], PureE.toS (SamePuts_spec f.puts puts), by first | (simp; done) | (simp [hpF_add, hpF_lo]; done) | exact need_hp htop hn | exact need_hp2 htop hn, by simp, ?_⟩; (try simp only [go_sem, Nat.reduceLT, Nat.reduceEqDiff, Nat.reduceAdd, Nat.reduceSub, Nat.reduceMul, Nat.reduceLeDiff, reduceIte, reduceCtorEq, Int.lt_irrefl, Nat.reduceMod, Nat.reduceBEq, eq_self, false_and, and_false, hr, Bool.not_true, hb1, hb2, hb3, hz', hwz, hf, h1, Int.natCast_nonneg]))
            | fail)
          rw [e0, e1]
        | false => cases h2 : (f.time == now) with
          | false => cases h3 : (((t.frames.length : Nat) : Int) == 4000) with
            | true =>
              have e1 : refAddG t now puts = (noTrace, 6) := by simp only [refAddG, hla, h1, h2, h3]; rfl
              repeat' (first
                | (refine ⟨_, _, _, First_spec t t.frames.length (Nat.le_refl _) (by omega) _ _, ?_⟩; simp only [List.take_length]; simp only [Nat.add_assoc, go_sem, Nat.reduceLT, Nat.reduceEqDiff, Nat.reduceAdd, Nat.reduceSub, Nat.reduceMul, Nat.reduceLeDiff, reduceIte, reduceCtorEq, Int.lt_irrefl, Nat.reduceMod, Nat.reduceBEq, eq_self, false_and, and_false, hr, Bool.not_true, hb1, hb2, hb3, hz', hwz, hf, h1, h2, h3, Int.natCast_nonneg])
                | refine wpA_seq ?_
                | refine wpA_skip ?_
                | (refine wpA_exit ?_)
                | (refine hK _ _ ?_; clear hK K)
                | (refine hK _ _ rfl ?_; clear hK K)
                | (refine wpA_reg hT hE fun K hK => ?_; simp only [go_sem, Nat.reduceLT, Nat.reduceEqDiff, Nat.reduceAdd, Nat.reduceSub, Nat.reduceMul, Nat.reduceLeDiff, reduceIte, reduceCtorEq, Int.lt_irrefl, Nat.reduceMod, Nat.reduceBEq, eq_self, false_and, and_false, hr, Bool.not_true, hb1, hb2, hb3, hz', hwz, hf, h1, h2, h3, Int.natCast_nonneg])
                | (refine wpA_drw hT hE hmix (by kernel_rfl) fun K hK => ?_; simp only [go_sem, Nat.reduceLT, Nat.reduceEqDiff, Nat.reduceAdd, Nat.reduceSub, Nat.reduceMul, Nat.reduceLeDiff, reduceIte, reduceCtorEq, Int.lt_irrefl, Nat.reduceMod, Nat.reduceBEq, eq_self, false_and, and_false, hr, Bool.not_true, hb1, hb2, hb3, hz', hwz, hf, h1, h2, h3, Int.natCast_nonneg])
                | (refine gd_t (fun h => ?_) (fun h => ?_) <;> (try simp only [h, go_sem, Nat.reduceLT, Nat.reduceEqDiff, Nat.reduceAdd, Nat.reduceSub, Nat.reduceMul, Nat.reduceLeDiff, reduceIte, reduceCtorEq, Int.lt_irrefl, Nat.reduceMod, Nat.reduceBEq, eq_self, false_and, and_false, hr, Bool.not_true, hb1, hb2, hb3, hz', hwz, hf, h1, h2, h3, Int.natCast_nonneg]))
                | (refine gd_f (fun h => ?_) (fun h => ?_) <;> (try simp only [h, go_sem, Nat.reduceLT, Nat.reduceEqDiff, Nat.reduceAdd, Nat.reduceSub, Nat.reduceMul, Nat.reduceLeDiff, reduceIte, reduceCtorEq, Int.lt_irrefl, Nat.reduceMod, Nat.reduceBEq, eq_self, false_and, and_false, hr, Bool.not_true, hb1, hb2, hb3, hz', hwz, hf, h1, h2, h3, Int.natCast_nonneg]))
                | refine wpA_block ?_
                | (refine wpA_fz 4 rfl ?_; simp only [go_sem, Nat.reduceLT, Nat.reduceEqDiff, Nat.reduceAdd, Nat.reduceSub, Nat.reduceMul, Nat.reduceLeDiff, reduceIte, reduceCtorEq, Int.lt_irrefl, Nat.reduceMod, Nat.reduceBEq, eq_self, false_and, and_false, hr, Bool.not_true, hb1, hb2, hb3, hz', hwz, hf, h1, h2, h3, Int.natCast_nonneg])
                | (refine wpA_fz 2 rfl ?_; simp only [go_sem, Nat.reduceLT, Nat.reduceEqDiff, Nat.reduceAdd, Nat.reduceSub, Nat.reduceMul, Nat.reduceLeDiff, reduceIte, reduceCtorEq, Int.lt_irrefl, Nat.reduceMod, Nat.reduceBEq, eq_self, false_and, and_false, hr, Bool.not_true, hb1, hb2, hb3, hz', hwz, hf, h1, h2, h3, Int.natCast_nonneg])
                | (refine wpA_cond rfl (fun h => ?_) (fun h => ?_) <;> (try (cases h; done)))
                | (refine wpA_ret (fin_pure (.inl rfl) rfl (by simp only [go_sem, Nat.reduceLT, Nat.reduceEqDiff, Nat.reduceAdd, Nat.reduceSub, Nat.reduceMul, Nat.reduceLeDiff, reduceIte, reduceCtorEq, Int.lt_irrefl, Nat.reduceMod, Nat.reduceBEq, eq_self, false_and, and_false, hr, Bool.not_true, hb1, hb2, hb3, hz', hwz, hf, h1, h2, h3, Int.natCast_nonneg]; rfl) ?_ (hW _)); (try simp only [go_sem, Nat.reduceLT, Nat.reduceEqDiff, Nat.reduceAdd, Nat.reduceSub, Nat.reduceMul, Nat.reduceLeDiff, reduceIte, reduceCtorEq, Int.lt_irrefl, Nat.reduceMod, Nat.reduceBEq, eq_self, false_and, and_false, hr, Bool.not_true, hb1, hb2, hb3, hz', hwz, hf, h1, h2, h3, Int.natCast_nonneg]))
                | (refine wpA_ret (fin_pureM (.inl rfl) (by simp only [go_sem, Nat.reduceLT, Nat.reduceEqDiff, Nat.reduceAdd, Nat.reduceSub, Nat.reduceMul, Nat.reduceLeDiff, reduceIte, reduceCtorEq, Int.lt_irrefl, Nat.reduceMod, Nat.reduceBEq, eq_self, false_and, and_false]) (by simp only [go_sem, Nat.reduceLT, Nat.reduceEqDiff, Nat.reduceAdd, Nat.reduceSub, Nat.reduceMul, Nat.reduceLeDiff, reduceIte, reduceCtorEq, Int.lt_irrefl, Nat.reduceMod, Nat.reduceBEq, eq_self, false_and, and_false, hr, Bool.not_true, hb1, hb2, hb3, hz', hwz, hf, h1, h2, h3, Int.natCast_nonneg]; rfl) ?_ (hW _)); (try simp only [go_sem, Nat.reduceLT, Nat.reduceEqDiff, Nat.reduceAdd, Nat.reduceSub, Nat.reduceMul, Nat.reduceLeDiff, reduceIte, reduceCtorEq, Int.lt_irrefl, Nat.reduceMod, Nat.reduceBEq, eq_self, false_and, and_false, hr, Bool.not_true, hb1, hb2, hb3, hz', hwz, hf, h1, h2, h3, Int.natCast_nonneg]))
                | (refine ⟨_, [], [], PureE.call (Right_spec t) (by first | (simp; done) | (simp [hpF_add, hpF_lo]; done) | exact need_hp htop hn | exact need_hp2 htop hn), ?_⟩; (try simp only [go_sem, Nat.reduceLT, Nat.reduceEqDiff, Nat.reduceAdd, Nat.reduceSub, Nat.reduceMul, Nat.reduceLeDiff, reduceIte, reduceCtorEq, Int.lt_irrefl, Nat.reduceMod, Nat.reduceBEq, eq_self, false_and, and_false, hr, Bool.not_true, hb1, hb2, hb3, hz', hwz, hf, h1, h2, h3, Int.natCast_nonneg]))
                | (refine ⟨_, _, [], PureE.toS (Right_spec t), by first | (simp; done) | (simp [hpF_add, hpF_lo]; done) | exact need_hp htop hn | exact need_hp2 htop hn, by simp, ?_⟩; (try simp only [go_sem, Nat.reduceLT, Nat.reduceEqDiff, Nat.reduceAdd, Nat.reduceSub, Nat.reduceMul, Nat.reduceLeDiff, reduceIte, reduceCtorEq, Int.lt_irrefl, Nat.reduceMod, Nat.reduceBEq, eq_self, false_and, and_false, hr, Bool.not_true, hb1, hb2, hb3, hz', hwz, hf, h1, h2, h3, Int.natCast_nonneg]))
                | (refine ⟨_, [], [], PureE.call (Time_spec now) (by first | (simp; done) | (simp [hpF_add, hpF_lo]; done) | exact need_hp htop hn | exact need_hp2 htop hn), ?_⟩; (try simp only [go_sem, Nat.reduceLT, Nat.reduceEqDiff, Nat.reduceAdd, Nat.reduceSub, Nat.reduceMul, Nat.reduceLeDiff, reduceIte, reduceCtorEq, Int.lt_irrefl, Nat.reduceMod, Nat.reduceBEq, eq_self, false_and, and_false, hr, Bool.not_true, hb1, hb2, hb3, hz', hwz, hf, h1, h2, h3, Int.natCast_nonneg]))
                | (refine ⟨_, _, [], PureE.toS (Time_spec now), by first | (simp; done) | (simp [hpF_add, hpF_lo]; done) | exact need_hp htop hn | exact need_hp2 htop hn, by simp, ?_⟩; (try simp only [go_sem, Nat.reduceLT, Nat.reduceEqDiff, Nat.reduceAdd, Nat.reduceSub, Nat.reduceMul, Nat.reduceLeDiff, reduceIte, reduceCtorEq, Int.lt_irrefl, Nat.reduceMod, Nat.reduceBEq, eq_self, false_and, and_false, hr, Bool.not_true, hb1, hb2, hb3, hz', hwz, hf, h1, h2, h3, Int.natCast_nonneg]))
                | (refine ⟨_, [], [], PureE.call (Picture_spec puts) (by first | (simp; done) | (simp [hpF_add, hpF_lo]; done) | exact need_hp htop hn | exact need_hp2 htop hn), ?_⟩; (try simp only [go_sem, Nat.reduceLT, Nat.reduceEqDiff, Nat.reduceAdd, Nat.reduceSub, Nat.reduceMul, Nat.reduceLeDiff, reduceIte, reduceCtorEq, Int.lt_irrefl, Nat.reduceMod, Nat.reduceBEq, eq_self, false_and, and_false, hr, Bool.not_true, hb1, hb2, hb3, hz', hwz, hf, h1, h2, h3, Int.natCast_nonneg]))
                | (refine ⟨_, _, [], PureE.toS (Picture_spec puts), by first | (simp; done) | (simp [hpF_add, hpF_lo]; done) | exact need_hp htop hn | exact need_hp2 htop hn, by simp, ?_⟩; (try simp only [go_sem, Nat.reduceLT, Nat.reduceEqDiff, Nat.reduceAdd, Nat.reduceSub, Nat.reduceMul, Nat.reduceLeDiff, reduceIte, reduceCtorEq, Int.lt_irrefl, Nat.reduceMod, Nat.reduceBEq, eq_self, false_and, and_false, hr, Bool.not_true, hb1, hb2, hb3, hz', hwz, hf, h1, h2, h3, Int.natCast_nonneg]))
                | (refine ⟨_, [], [], PureE.call (SamePuts_spec f.puts puts) (by first | (simp; done) | (simp [hpF_add, hpF_lo]; done) | exact need_hp htop hn | exact need_hp2 htop hn), ?_⟩; (try simp only [go_sem, Nat.reduceLT, Nat.reduceEqDiff, Nat.reduceAdd, Nat.reduceSub, Nat.reduceMul, Nat.reduceLeDiff, reduceIte, reduceCtorEq, Int.lt_irrefl, Nat.reduceMod, Nat.reduceBEq, eq_self, false_and, and_false, hr, Bool.not_true, hb1, hb2, hb3, hz', hwz, hf, h1, h2, h3, Int.natCast_nonneg]))
                | (refine ⟨_, _, [], PureE.toS (SamePuts_spec f.puts puts), by first | (simp; done) | (simp [hpF_add, hpF_lo]; done) | exact need_hp htop hn | exact need_hp2 htop hn, by simp, ?_⟩; (try simp only [go_sem, Nat.reduceLT, Nat.reduceEqDiff, Nat.reduceAdd, Nat.reduceSub, Nat.reduceMul, Nat.reduceLeDiff, reduceIte, reduceCtorEq, Int.lt_irrefl, Nat.reduceMod, Nat.reduceBEq, eq_self, false_and, and_false, hr, Bool.not_true, hb1, hb2, hb3, hz', hwz, hf, h1, h2, h3, Int.natCast_nonneg]))
                | fail)
              rw [e0, e1]; rfl
            | false =>
              have e1 : refAddG t now puts = (⟨t.frames ++ [⟨now, puts⟩], now⟩, 0) := by simp only [refAddG, hla, h1, h2, h3]; rfl
              repeat' (first
                | (refine ⟨_, _, _, First_spec t t.frames.length (Nat.le_refl _) (by omega) _ _, ?_⟩; simp only [List.take_length]; simp only [Nat.add_assoc, go_sem, Nat.reduceLT, Nat.reduceEqDiff, Nat.reduceAdd, Nat.reduceSub, Nat.reduceMul, Nat.reduceLeDiff, reduceIte, reduceCtorEq, Int.lt_irrefl, Nat.reduceMod, Nat.reduceBEq, eq_self, false_and, and_false, hr, Bool.not_true, hb1, hb2, hb3, hz', hwz, hf, h1, h2, h3, Int.natCast_nonneg, hb4, hb5])
                | refine wpA_seq ?_
                | refine wpA_skip ?_
                | (refine wpA_exit ?_)
                | (refine hK _ _ ?_; clear hK K)
                | (refine hK _ _ rfl ?_; clear hK K)
                | (refine wpA_reg hT hE fun K hK => ?_; simp only [go_sem, Nat.reduceLT, Nat.reduceEqDiff, Nat.reduceAdd, Nat.reduceSub, Nat.reduceMul, Nat.reduceLeDiff, reduceIte, reduceCtorEq, Int.lt_irrefl, Nat.reduceMod, Nat.reduceBEq, eq_self, false_and, and_false, hr, Bool.not_true, hb1, hb2, hb3, hz', hwz, hf, h1, h2, h3, Int.natCast_nonneg, hb4, hb5])
                | (refine wpA_drw hT hE hmix (by kernel_rfl) fun K hK => ?_; simp only [go_sem, Nat.reduceLT, Nat.reduceEqDiff, Nat.reduceAdd, Nat.reduceSub, Nat.reduceMul, Nat.reduceLeDiff, reduceIte, reduceCtorEq, Int.lt_irrefl, Nat.reduceMod, Nat.reduceBEq, eq_self, false_and, and_false, hr, Bool.not_true, hb1, hb2, hb3, hz', hwz, hf, h1, h2, h3, Int.natCast_nonneg, hb4, hb5])
                | (refine gd_t (fun h => ?_) (fun h => ?_) <;> (try simp only [h, go_sem, Nat.reduceLT, Nat.reduceEqDiff, Nat.reduceAdd, Nat.reduceSub, Nat.reduceMul, Nat.reduceLeDiff, reduceIte, reduceCtorEq, Int.lt_irrefl, Nat.reduceMod, Nat.reduceBEq, eq_self, false_and, and_false, hr, Bool.not_true, hb1, hb2, hb3, hz', hwz, hf, h1, h2, h3, Int.natCast_nonneg, hb4, hb5]))
                | (refine gd_f (fun h => ?_) (fun h => ?_) <;> (try simp only [h, go_sem, Nat.reduceLT, Nat.reduceEqDiff, Nat.reduceAdd, Nat.reduceSub, Nat.reduceMul, Nat.reduceLeDiff, reduceIte, reduceCtorEq, Int.lt_irrefl, Nat.reduceMod, Nat.reduceBEq, eq_self, false_and, and_false, hr, Bool.not_true, hb1, hb2, hb3, hz', hwz, hf, h1, h2, h3, Int.natCast_nonneg, hb4, hb5]))
                | refine wpA_block ?_
                | (refine wpA_fz 4 rfl ?_; simp only [go_sem, Nat.reduceLT, Nat.reduceEqDiff, Nat.reduceAdd, Nat.reduceSub, Nat.reduceMul, Nat.reduceLeDiff, reduceIte, reduceCtorEq, Int.lt_irrefl, Nat.reduceMod, Nat.reduceBEq, eq_self, false_and, and_false, hr, Bool.not_true, hb1, hb2, hb3, hz', hwz, hf, h1, h2, h3, Int.natCast_nonneg, hb4, hb5])
                | (refine wpA_fz 2 rfl ?_; simp only [go_sem, Nat.reduceLT, Nat.reduceEqDiff, Nat.reduceAdd, Nat.reduceSub, Nat.reduceMul, Nat.reduceLeDiff, reduceIte, reduceCtorEq, Int.lt_irrefl, Nat.reduceMod, Nat.reduceBEq, eq_self, false_and, and_false, hr, Bool.not_true, hb1, hb2, hb3, hz', hwz, hf, h1, h2, h3, Int.natCast_nonneg, hb4, hb5])
                | (refine wpA_cond rfl (fun h => ?_) (fun h => ?_) <;> (try (cases h; done)))
                | (refine wpA_ret (fin_pure (.inl rfl) rfl (by simp only [go_sem, Nat.reduceLT, Nat.reduceEqDiff, Nat.reduceAdd, Nat.reduceSub, Nat.reduceMul, Nat.reduceLeDiff, reduceIte, reduceCtorEq, Int.lt_irrefl, Nat.reduceMod, Nat.reduceBEq, eq_self, false_and, and_false, hr, Bool.not_true, hb1, hb2, hb3, hz', hwz, hf, h1, h2, h3, Int.natCast_nonneg, hb4, hb5]; rfl) ?_ (hW _)); (try simp only [go_sem, Nat.reduceLT, Nat.reduceEqDiff, Nat.reduceAdd, Nat.reduceSub, Nat.reduceMul, Nat.reduceLeDiff, reduceIte, reduceCtorEq, Int.lt_irrefl, Nat.reduceMod, Nat.reduceBEq, eq_self, false_and, and_false, hr, Bool.not_true, hb1, hb2, hb3, hz', hwz, hf, h1, h2, h3, Int.natCast_nonneg, hb4, hb5]))
                | (refine wpA_ret (fin_pureM (.inl rfl) (by simp only [go_sem, Nat.reduceLT, Nat.reduceEqDiff, Nat.reduceAdd, Nat.reduceSub, Nat.reduceMul, Nat.reduceLeDiff, reduceIte, reduceCtorEq, Int.lt_irrefl, Nat.reduceMod, Nat.reduceBEq, eq_self, false_and, and_false]) (by simp only [go_sem, Nat.reduceLT, Nat.reduceEqDiff, Nat.reduceAdd, Nat.reduceSub, Nat.reduceMul, Nat.reduceLeDiff, reduceIte, reduceCtorEq, Int.lt_irrefl, Nat.reduceMod, Nat.reduceBEq, eq_self, false_and, and_false, hr, Bool.not_true, hb1, hb2, hb3, hz', hwz, hf, h1, h2, h3, Int.natCast_nonneg, hb4, hb5]; rfl) ?_ (hW _)); (try simp only [go_sem, Nat.reduceLT, Nat.reduceEqDiff, Nat.reduceAdd, Nat.reduceSub, Nat.reduceMul, Nat.reduceLeDiff, reduceIte, reduceCtorEq, Int.lt_irrefl, Nat.reduceMod, Nat.reduceBEq, eq_self, false_and, and_false, hr, Bool.not_true, hb1, hb2, hb3, hz', hwz, hf, h1, h2, h3, Int.natCast_nonneg, hb4, hb5]))
                | (refine ⟨_, [], [], PureE.call (Right_spec t) (by first | (simp; done) | (simp [hpF_add, hpF_lo]; done) | exact need_hp htop hn | exact need_hp2 htop hn), ?_⟩; (try simp only [go_sem, Nat.reduceLT, Nat.reduceEqDiff, Nat.reduceAdd, Nat.reduceSub, Nat.reduceMul, Nat.reduceLeDiff, reduceIte, reduceCtorEq, Int.lt_irrefl, Nat.reduceMod, Nat.reduceBEq, eq_self, false_and, and_false, hr, Bool.not_true, hb1, hb2, hb3, hz', hwz, hf, h1, h2, h3, Int.natCast_nonneg, hb4, hb5]))
                | (refine ⟨_, _, [], PureE.toS (Right_spec t), by first | (simp; done) | (simp [hpF_add, hpF_lo]; done) | exact need_hp htop hn | exact need_hp2 htop hn, by simp, ?_⟩; (try simp only [go_sem, Nat.reduceLT, Nat.reduceEqDiff, Nat.reduceAdd, Nat.reduceSub, Nat.reduceMul, Nat.reduceLeDiff, reduceIte, reduceCtorEq, Int.lt_irrefl, Nat.reduceMod, Nat.reduceBEq, eq_self, false_and, and_false, hr, Bool.not_true, hb1, hb2, hb3, hz', hwz, hf, h1, h2, h3, Int.natCast_nonneg, hb4, hb5]))
                | (refine ⟨_, [], [], PureE.call (Time_spec now) (by first | (simp; done) | (simp [hpF_add, hpF_lo]; done) | exact need_hp htop hn | exact need_hp2 htop hn), ?_⟩; (try simp only [go_sem, Nat.reduceLT, Nat.reduceEqDiff, Nat.reduceAdd, Nat.reduceSub, Nat.reduceMul, Nat.reduceLeDiff, reduceIte, reduceCtorEq, Int.lt_irrefl, Nat.reduceMod, Nat.reduceBEq, eq_self, false_and, and_false, hr, Bool.not_true, hb1, hb2, hb3, hz', hwz, hf, h1, h2, h3, Int.natCast_nonneg, hb4, hb5]))
                | (refine ⟨_, _, [], PureE.toS (Time_spec now), by first | (simp; done) | (simp [hpF_add, hpF_lo]; done) | exact need_hp htop hn | exact need_hp2 htop hn, by simp, ?_⟩; (try simp only [go_sem, Nat.reduceLT, Nat.reduceEqDiff, Nat.reduceAdd, Nat.reduceSub, Nat.reduceMul, Nat.reduceLeDiff, reduceIte, reduceCtorEq, Int.lt_irrefl, Nat.reduceMod, Nat.reduceBEq, eq_self, false_and, and_false, hr, Bool.not_true, hb1, hb2, hb3, hz', hwz, hf, h1, h2, h3, Int.natCast_nonneg, hb4, hb5]))
                | (refine ⟨_, [], [], PureE.call (Picture_spec puts) (by first | (simp; done) | (simp [hpF_add, hpF_lo]; done) | exact need_hp htop hn | exact need_hp2 htop hn), ?_⟩; (try simp only [go_sem, Nat.reduceLT, Nat.reduceEqDiff, Nat.reduceAdd, Nat.reduceSub, Nat.reduceMul, Nat.reduceLeDiff, reduceIte, reduceCtorEq, Int.lt_irrefl, Nat.reduceMod, Nat.reduceBEq, eq_self, false_and, and_false, hr, Bool.not_true, hb1, hb2, hb3, hz', hwz, hf, h1, h2, h3, Int.natCast_nonneg, hb4, hb5]))
                | (refine ⟨_, _, [], PureE.toS (Picture_spec puts), by first | (simp; done) | (simp [hpF_add, hpF_lo]; done) | exact need_hp htop hn | exact need_hp2 htop hn, by simp, ?_⟩; (try simp only [go_sem, Nat.reduceLT, Nat.reduceEqDiff, Nat.reduceAdd, Nat.reduceSub, Nat.reduceMul, Nat.reduceLeDiff, reduceIte, reduceCtorEq, Int.lt_irrefl, Nat.reduceMod, Nat.reduceBEq, eq_self, false_and, and_false, hr, Bool.not_true, hb1, hb2, hb3, hz', hwz, hf, h1, h2, h3, Int.natCast_nonneg, hb4, hb5]))
                | (refine ⟨_, [], [], PureE.call (SamePuts_spec f.puts puts) (by first | (simp; done) | (simp [hpF_add, hpF_lo]; done) | exact need_hp htop hn | exact need_hp2 htop hn), ?_⟩; (try simp only [go_sem, Nat.reduceLT, Nat.reduceEqDiff, Nat.reduceAdd, Nat.reduceSub, Nat.reduceMul, Nat.reduceLeDiff, reduceIte, reduceCtorEq, Int.lt_irrefl, Nat.reduceMod, Nat.reduceBEq, eq_self, false_and, and_false, hr, Bool.not_true, hb1, hb2, hb3, hz', hwz, hf, h1, h2, h3, Int.natCast_nonneg, hb4, hb5]))
                | (refine ⟨_, _, [], PureE.toS (SamePuts_spec f.puts puts), by first | (simp; done) | (simp [hpF_add, hpF_lo]; done) | exact need_hp htop hn | exact need_hp2 htop hn, by simp, ?_⟩; (try simp only [go_sem, Nat.reduceLT, Nat.reduceEqDiff, Nat.reduceAdd, Nat.reduceSub, Nat.reduceMul, Nat.reduceLeDiff, reduceIte, reduceCtorEq, Int.lt_irrefl, Nat.reduceMod, Nat.reduceBEq, eq_self, false_and, and_false, hr, Bool.not_true, hb1, hb2, hb3, hz', hwz, hf, h1, h2, h3, Int.natCast_nonneg, hb4, hb5]))
                | fail)
              rw [e0, e1, List.map_append]; rfl
          | true =>
            have h3 : (((t.frames.length - 1 : Nat) : Int) == 4000) = false := by rw [beq_eq_false_iff_ne]; omega
            rcases Nat.eq_zero_or_pos (t.frames.length - 1) with hy | hy
            · have hy' : ¬ (((t.frames.length - 1 : Nat) : Int) > 0) := by omega
              have hlb : lastF (t.frames.take (t.frames.length - 1)) = none := by rw [hy]; rfl
              have e1 : refAddG t now puts = (⟨t.frames.take (t.frames.length - 1) ++ [⟨now, puts⟩], now⟩, 0) := by simp only [refAddG, hla, h1, h2, hlb]; rfl
              repeat' (first
                | (refine ⟨_, _, _, First_spec t (t.frames.length - 1) (by omega) (by omega) _ _, ?_⟩; simp only [Nat.add_assoc, go_sem, Nat.reduceLT, Nat.reduceEqDiff, Nat.reduceAdd, Nat.reduceSub, Nat.reduceMul, Nat.reduceLeDiff, reduceIte, reduceCtorEq, Int.lt_irrefl, Nat.reduceMod, Nat.reduceBEq, eq_self, false_and, and_false, hr, Bool.not_true, hb1, hb2, hb3, hz', hwz, hf, h1, h2, h3, hy', Int.natCast_nonneg, hb6, hb7, hll])
                | refine wpA_seq ?_
                | refine wpA_skip ?_
                | (refine wpA_exit ?_)
                | (refine hK _ _ ?_; clear hK K)
                | (refine hK _ _ rfl ?_; clear hK K)
                | (refine wpA_reg hT hE fun K hK => ?_; simp only [go_sem, Nat.reduceLT, Nat.reduceEqDiff, Nat.reduceAdd, Nat.reduceSub, Nat.reduceMul, Nat.reduceLeDiff, reduceIte, reduceCtorEq, Int.lt_irrefl, Nat.reduceMod, Nat.reduceBEq, eq_self, false_and, and_false, hr, Bool.not_true, hb1, hb2, hb3, hz', hwz, hf, h1, h2, h3, hy', Int.natCast_nonneg, hb6, hb7, hll])
                | (refine wpA_drw hT hE hmix (by kernel_rfl) fun K hK => ?_; simp only [go_sem, Nat.reduceLT, Nat.reduceEqDiff, Nat.reduceAdd, Nat.reduceSub, Nat.reduceMul, Nat.reduceLeDiff, reduceIte, reduceCtorEq, Int.lt_irrefl, Nat.reduceMod, Nat.reduceBEq, eq_self, false_and, and_false, hr, Bool.not_true, hb1, hb2, hb3, hz', hwz, hf, h1, h2, h3, hy', Int.natCast_nonneg, hb6, hb7, hll])
                | (refine gd_t (fun h => ?_) (fun h => ?_) <;> (try simp only [h, go_sem, Nat.reduceLT, Nat.reduceEqDiff, Nat.reduceAdd, Nat.reduceSub, Nat.reduceMul, Nat.reduceLeDiff, reduceIte, reduceCtorEq, Int.lt_irrefl, Nat.reduceMod, Nat.reduceBEq, eq_self, false_and, and_false, hr, Bool.not_true, hb1, hb2, hb3, hz', hwz, hf, h1, h2, h3, hy', Int.natCast_nonneg, hb6, hb7, hll]))
                | (refine gd_f (fun h => ?_) (fun h => ?_) <;> (try simp only [h, go_sem, Nat.reduceLT, Nat.reduceEqDiff, Nat.reduceAdd, Nat.reduceSub, Nat.reduceMul, Nat.reduceLeDiff, reduceIte, reduceCtorEq, Int.lt_irrefl, Nat.reduceMod, Nat.reduceBEq, eq_self, false_and, and_false, hr, Bool.not_true, hb1, hb2, hb3, hz', hwz, hf, h1, h2, h3, hy', Int.natCast_nonneg, hb6, hb7, hll]))
                | refine wpA_block ?_
                | (refine wpA_fz 4 rfl ?_; simp only [go_sem, Nat.reduceLT, Nat.reduceEqDiff, Nat.reduceAdd, Nat.reduceSub, Nat.reduceMul, Nat.reduceLeDiff, reduceIte, reduceCtorEq, Int.lt_irrefl, Nat.reduceMod, Nat.reduceBEq, eq_self, false_and, and_false, hr, Bool.not_true, hb1, hb2, hb3, hz', hwz, hf, h1, h2, h3, hy', Int.natCast_nonneg, hb6, hb7, hll])
                | (refine wpA_fz 2 rfl ?_; simp only [go_sem, Nat.reduceLT, Nat.reduceEqDiff, Nat.reduceAdd, Nat.reduceSub, Nat.reduceMul, Nat.reduceLeDiff, reduceIte, reduceCtorEq, Int.lt_irrefl, Nat.reduceMod, Nat.reduceBEq, eq_self, false_and, and_false, hr, Bool.not_true, hb1, hb2, hb3, hz', hwz, hf, h1, h2, h3, hy', Int.natCast_nonneg, hb6, hb7, hll])
                | (refine wpA_cond rfl (fun h => ?_) (fun h => ?_) <;> (try (cases h; done)))
                | (refine wpA_ret (fin_pure (.inl rfl) rfl (by simp only [go_sem, Nat.reduceLT, Nat.reduceEqDiff, Nat.reduceAdd, Nat.reduceSub, Nat.reduceMul, Nat.reduceLeDiff, reduceIte, reduceCtorEq, Int.lt_irrefl, Nat.reduceMod, Nat.reduceBEq, eq_self, false_and, and_false, hr, Bool.not_true, hb1, hb2, hb3, hz', hwz, hf, h1, h2, h3, hy', Int.natCast_nonneg, hb6, hb7, hll]; rfl) ?_ (hW _)); (try simp only [go_sem, Nat.reduceLT, Nat.reduceEqDiff, Nat.reduceAdd, Nat.reduceSub, Nat.reduceMul, Nat.reduceLeDiff, reduceIte, reduceCtorEq, Int.lt_irrefl, Nat.reduceMod, Nat.reduceBEq, eq_self, false_and, and_false, hr, Bool.not_true, hb1, hb2, hb3, hz', hwz, hf, h1, h2, h3, hy', Int.natCast_nonneg, hb6, hb7, hll]))
                | (refine wpA_ret (fin_pureM (.inl rfl) (by simp only [go_sem, Nat.reduceLT, Nat.reduceEqDiff, Nat.reduceAdd, Nat.reduceSub, Nat.reduceMul, Nat.reduceLeDiff, reduceIte, reduceCtorEq, Int.lt_irrefl, Nat.reduceMod, Nat.reduceBEq, eq_self, false_and, and_false]) (by simp only [go_sem, Nat.reduceLT, Nat.reduceEqDiff, Nat.reduceAdd, Nat.reduceSub, Nat.reduceMul, Nat.reduceLeDiff, reduceIte, reduceCtorEq, Int.lt_irrefl, Nat.reduceMod, Nat.reduceBEq, eq_self, false_and, and_false, hr, Bool.not_true, hb1, hb2, hb3, hz', hwz, hf, h1, h2, h3, hy', Int.natCast_nonneg, hb6, hb7, hll]; rfl) ?_ (hW _)); (try simp only [go_sem, Nat.reduceLT, Nat.reduceEqDiff, Nat.reduceAdd, Nat.reduceSub, Nat.reduceMul, Nat.reduceLeDiff, reduceIte, reduceCtorEq, Int.lt_irrefl, Nat.reduceMod, Nat.reduceBEq, eq_self, false_and, and_false, hr, Bool.not_true, hb1, hb2, hb3, hz', hwz, hf, h1, h2, h3, hy', Int.natCast_nonneg, hb6, hb7, hll]))
                | (refine ⟨_, [], [], PureE.call (Right_spec t) (by first | (simp; done) | (simp [hpF_add, hpF_lo]; done) | exact need_hp htop hn | exact need_hp2 htop hn), ?_⟩; (try simp only [go_sem, Nat.reduceLT, Nat.reduceEqDiff, Nat.reduceAdd, Nat.reduceSub, Nat.reduceMul, Nat.reduceLeDiff, reduceIte, reduceCtorEq, Int.lt_irrefl, Nat.reduceMod, Nat.reduceBEq, eq_self, false_and, and_false, hr, Bool.not_true, hb1, hb2, hb3, hz', hwz, hf, h1, h2, h3, hy', Int.natCast_nonneg, hb6, hb7, hll]))
                | (refine ⟨_, _, [], PureE.toS (Right_spec t), by first | (simp; done) | (simp [hpF_add, hpF_lo]; done) | exact need_hp htop hn | exact need_hp2 htop hn, by simp, ?_⟩; (try simp only [go_sem, Nat.reduceLT, Nat.reduceEqDiff, Nat.reduceAdd, Nat.reduceSub, Nat.reduceMul, Nat.reduceLeDiff, reduceIte, reduceCtorEq, Int.lt_irrefl, Nat.reduceMod, Nat.reduceBEq, eq_self, false_and, and_false, hr, Bool.not_true, hb1, hb2, hb3, hz', hwz, hf, h1, h2, h3, hy', Int.natCast_nonneg, hb6, hb7, hll]))
                | (refine ⟨_, [], [], PureE.call (Time_spec now) (by first | (simp; done) | (simp [hpF_add, hpF_lo]; done) | exact need_hp htop hn | exact need_hp2 htop hn), ?_⟩; (try simp only [go_sem, Nat.reduceLT, Nat.reduceEqDiff, Nat.reduceAdd, Nat.reduceSub, Nat.reduceMul, Nat.reduceLeDiff, reduceIte, reduceCtorEq, Int.lt_irrefl, Nat.reduceMod, Nat.reduceBEq, eq_self, false_and, and_false, hr, Bool.not_true, hb1, hb2, hb3, hz', hwz, hf, h1, h2, h3, hy', Int.natCast_nonneg, hb6, hb7, hll]))
                | (refine ⟨_, _, [], PureE.toS (Time_spec now), by first | (simp; done) | (simp [hpF_add, hpF_lo]; done) | exact need_hp htop hn | exact need_hp2 htop hn, by simp, ?_⟩; (try simp only [go_sem, Nat.reduceLT, Nat.reduceEqDiff, Nat.reduceAdd, Nat.reduceSub, Nat.reduceMul, Nat.reduceLeDiff, reduceIte, reduceCtorEq, Int.lt_irrefl, Nat.reduceMod, Nat.reduceBEq, eq_self, false_and, and_false, hr, Bool.not_true, hb1, hb2, hb3, hz', hwz, hf, h1, h2, h3, hy', Int.natCast_nonneg, hb6, hb7, hll]))
                | (refine ⟨_, [], [], PureE.call (Picture_spec puts) (by first | (simp; done) | (simp [hpF_add, hpF_lo]; done) | exact need_hp htop hn | exact need_hp2 htop hn), ?_⟩; (try simp only [go_sem, Nat.reduceLT, Nat.reduceEqDiff, Nat.reduceAdd, Nat.reduceSub, Nat.reduceMul, Nat.reduceLeDiff, reduceIte, reduceCtorEq, Int.lt_irrefl, Nat.reduceMod, Nat.reduceBEq, eq_self, false_and, and_false, hr, Bool.not_true, hb1, hb2, hb3, hz', hwz, hf, h1, h2, h3, hy', Int.natCast_nonneg, hb6, hb7, hll]))
                | (refine ⟨_, _, [], PureE.toS (Picture_spec puts), by first | (simp; done) | (simp [hpF_add, hpF_lo]; done) | exact need_hp htop hn | exact need_hp2 htop hn, by simp, ?_⟩; (try simp only [go_sem, Nat.reduceLT, Nat.reduceEqDiff, Nat.reduceAdd, Nat.reduceSub, Nat.reduceMul, Nat.reduceLeDiff, reduceIte, reduceCtorEq, Int.lt_irrefl, Nat.reduceMod, Nat.reduceBEq, eq_self, false_and, and_false, hr, Bool.not_true, hb1, hb2, hb3, hz', hwz, hf, h1, h2, h3, hy', Int.natCast_nonneg, hb6, hb7, hll]))
                | (refine ⟨_, [], [], PureE.call (SamePuts_spec f.puts puts) (by first | (simp; done) | (simp [hpF_add, hpF_lo]; done) | exact need_hp htop hn | exact need_hp2 htop hn), ?_⟩; (try simp only [go_sem, Nat.reduceLT, Nat.reduceEqDiff, Nat.reduceAdd, Nat.reduceSub, Nat.reduceMul, Nat.reduceLeDiff, reduceIte, reduceCtorEq, Int.lt_irrefl, Nat.reduceMod, Nat.reduceBEq, eq_self, false_and, and_false, hr, Bool.not_true, hb1, hb2, hb3, hz', hwz, hf, h1, h2, h3, hy', Int.natCast_nonneg, hb6, hb7, hll]))
                | (refine ⟨_, _, [], PureE.toS (SamePuts_spec f.puts puts), by first | (simp; done) | (simp [hpF_add, hpF_lo]; done) | exact need_hp htop hn | exact need_hp2 htop hn, by simp, ?_⟩; (try simp only [go_sem, Nat.reduceLT, Nat.reduceEqDiff, Nat.reduceAdd, Nat.reduceSub, Nat.reduceMul, Nat.reduceLeDiff, reduceIte, reduceCtorEq, Int.lt_irrefl, Nat.reduceMod, Nat.reduceBEq, eq_self, false_and, and_false, hr, Bool.not_true, hb1, hb2, hb3, hz', hwz, hf, h1, h2, h3, hy', Int.natCast_nonneg, hb6, hb7, hll]))
                | fail)
              rw [e0, e1, List.map_append]; rfl
            · obtain ⟨g, hg, _, _⟩ := get_of_lt (l := t.frames.take (t.frames.length - 1)) (i := t.frames.length - 1 - 1) (by omega)
              have hg' : t.frames[t.frames.length - 1 - 1]? = some g := by rw [List.getElem?_take] at hg; rwa [if_pos (by omega)] at hg
              have hy' : (((t.frames.length - 1 : Nat) : Int) > 0) := by omega
              have hlb : lastF (t.frames.take (t.frames.length - 1)) = some g := by rw [lastF, hll]; exact hg
              have hwy := wrapP (i := t.frames.length - 1) (n := t.frames.length) (by omega) hy (by omega)
              cases h4 : decide (g.puts = puts) with
              | true =>
                have e1 : refAddG t now puts = (⟨t.frames.take (t.frames.length - 1), now⟩, 0) := by simp only [refAddG, hla, h1, h2, hlb, h4]; rfl
                repeat' (first
                  | (refine ⟨_, _, _, First_spec t (t.frames.length - 1) (by omega) (by omega) _ _, ?_⟩; simp only [Nat.add_assoc, go_sem, Nat.reduceLT, Nat.reduceEqDiff, Nat.reduceAdd, Nat.reduceSub, Nat.reduceMul, Nat.reduceLeDiff, reduceIte, reduceCtorEq, Int.lt_irrefl, Nat.reduceMod, Nat.reduceBEq, eq_self, false_and, and_false, hr, Bool.not_true, hb1, hb2, hb3, hz', hwz, hf, h1, h2, h3, h4, hy', hg', hwy, Int.natCast_nonneg, hb6, hb7, hll])
                  | refine wpA_seq ?_
                  | refine wpA_skip ?_
                  | (refine wpA_exit ?_)
                  | (refine hK _ _ ?_; clear hK K)
                  | (refine hK _ _ rfl ?_; clear hK K)
                  | (refine wpA_reg hT hE fun K hK => ?_; simp only [go_sem, Nat.reduceLT, Nat.reduceEqDiff, Nat.reduceAdd, Nat.reduceSub, Nat.reduceMul, Nat.reduceLeDiff, reduceIte, reduceCtorEq, Int.lt_irrefl, Nat.reduceMod, Nat.reduceBEq, eq_self, false_and, and_false, hr, Bool.not_true, hb1, hb2, hb3, hz', hwz, hf, h1, h2, h3, h4, hy', hg', hwy, Int.natCast_nonneg, hb6, hb7, hll])
                  | (refine wpA_drw hT hE hmix (by kernel_rfl) fun K hK => ?_; simp only [go_sem, Nat.reduceLT, Nat.reduceEqDiff, Nat.reduceAdd, Nat.reduceSub, Nat.reduceMul, Nat.reduceLeDiff, reduceIte, reduceCtorEq, Int.lt_irrefl, Nat.reduceMod, Nat.reduceBEq, eq_self, false_and, and_false, hr, Bool.not_true, hb1, hb2, hb3, hz', hwz, hf, h1, h2, h3, h4, hy', hg', hwy, Int.natCast_nonneg, hb6, hb7, hll])
                  | (refine gd_t (fun h => ?_) (fun h => ?_) <;> (try simp only [h, go_sem, Nat.reduceLT, Nat.reduceEqDiff, Nat.reduceAdd, Nat.reduceSub, Nat.reduceMul, Nat.reduceLeDiff, reduceIte, reduceCtorEq, Int.lt_irrefl, Nat.reduceMod, Nat.reduceBEq, eq_self, false_and, and_false, hr, Bool.not_true, hb1, hb2, hb3, hz', hwz, hf, h1, h2, h3, h4, hy', hg', hwy, Int.natCast_nonneg, hb6, hb7, hll]))
                  | (refine gd_f (fun h => ?_) (fun h => ?_) <;> (try simp only [h, go_sem, Nat.reduceLT, Nat.reduceEqDiff, Nat.reduceAdd, Nat.reduceSub, Nat.reduceMul, Nat.reduceLeDiff, reduceIte, reduceCtorEq, Int.lt_irrefl, Nat.reduceMod, Nat.reduceBEq, eq_self, false_and, and_false, hr, Bool.not_true, hb1, hb2, hb3, hz', hwz, hf, h1, h2, h3, h4, hy', hg', hwy, Int.natCast_nonneg, hb6, hb7, hll]))
                  | refine wpA_block ?_
                  | (refine wpA_fz 4 rfl ?_; simp only [go_sem, Nat.reduceLT, Nat.reduceEqDiff, Nat.reduceAdd, Nat.reduceSub, Nat.reduceMul, Nat.reduceLeDiff, reduceIte, reduceCtorEq, Int.lt_irrefl, Nat.reduceMod, Nat.reduceBEq, eq_self, false_and, and_false, hr, Bool.not_true, hb1, hb2, hb3, hz', hwz, hf, h1, h2, h3, h4, hy', hg', hwy, Int.natCast_nonneg, hb6, hb7, hll])
                  | (refine wpA_fz 2 rfl ?_; simp only [go_sem, Nat.reduceLT, Nat.reduceEqDiff, Nat.reduceAdd, Nat.reduceSub, Nat.reduceMul, Nat.reduceLeDiff, reduceIte, reduceCtorEq, Int.lt_irrefl, Nat.reduceMod, Nat.reduceBEq, eq_self, false_and, and_false, hr, Bool.not_true, hb1, hb2, hb3, hz', hwz, hf, h1, h2, h3, h4, hy', hg', hwy, Int.natCast_nonneg, hb6, hb7, hll])
                  | (refine wpA_cond rfl (fun h => ?_) (fun h => ?_) <;> (try (cases h; done)))
                  | (refine wpA_ret (fin_pure (.inl rfl) rfl (by simp only [go_sem, Nat.reduceLT, Nat.reduceEqDiff, Nat.reduceAdd, Nat.reduceSub, Nat.reduceMul, Nat.reduceLeDiff, reduceIte, reduceCtorEq, Int.lt_irrefl, Nat.reduceMod, Nat.reduceBEq, eq_self, false_and, and_false, hr, Bool.not_true, hb1, hb2, hb3, hz', hwz, hf, h1, h2, h3, h4, hy', hg', hwy, Int.natCast_nonneg, hb6, hb7, hll]; rfl) ?_ (hW _)); (try simp only [go_sem, Nat.reduceLT, Nat.reduceEqDiff, Nat.reduceAdd, Nat.reduceSub, Nat.reduceMul, Nat.reduceLeDiff, reduceIte, reduceCtorEq, Int.lt_irrefl, Nat.reduceMod, Nat.reduceBEq, eq_self, false_and, and_false, hr, Bool.not_true, hb1, hb2, hb3, hz', hwz, hf, h1, h2, h3, h4, hy', hg', hwy, Int.natCast_nonneg, hb6, hb7, hll]))
                  | (refine wpA_ret (fin_pureM (.inl rfl) (by simp only [go_sem, Nat.reduceLT, Nat.reduceEqDiff, Nat.reduceAdd, Nat.reduceSub, Nat.reduceMul, Nat.reduceLeDiff, reduceIte, reduceCtorEq, Int.lt_irrefl, Nat.reduceMod, Nat.reduceBEq, eq_self, false_and, and_false]) (by simp only [go_sem, Nat.reduceLT, Nat.reduceEqDiff, Nat.reduceAdd, Nat.reduceSub, Nat.reduceMul, Nat.reduceLeDiff, reduceIte, reduceCtorEq, Int.lt_irrefl, Nat.reduceMod, Nat.reduceBEq, eq_self, false_and, and_false, hr, Bool.not_true, hb1, hb2, hb3, hz', hwz, hf, h1, h2, h3, h4, hy', hg', hwy, Int.natCast_nonneg, hb6, hb7, hll]; rfl) ?_ (hW _)); (try simp only [go_sem, Nat.reduceLT, Nat.reduceEqDiff, Nat.reduceAdd, Nat.reduceSub, Nat.reduceMul, Nat.reduceLeDiff, reduceIte, reduceCtorEq, Int.lt_irrefl, Nat.reduceMod, Nat.reduceBEq, eq_self, false_and, and_false, hr, Bool.not_true, hb1, hb2, hb3, hz', hwz, hf, h1, h2, h3, h4, hy', hg', hwy, Int.natCast_nonneg, hb6, hb7, hll]))
                  | (refine ⟨_, [], [], PureE.call (Right_spec t) (by first | (simp; done) | (simp [hpF_add, hpF_lo]; done) | exact need_hp htop hn | exact need_hp2 htop hn), ?_⟩; (try simp only [go_sem, Nat.reduceLT, Nat.reduceEqDiff, Nat.reduceAdd, Nat.reduceSub, Nat.reduceMul, Nat.reduceLeDiff, reduceIte, reduceCtorEq, Int.lt_irrefl, Nat.reduceMod, Nat.reduceBEq, eq_self, false_and, and_false, hr, Bool.not_true, hb1, hb2, hb3, hz', hwz, hf, h1, h2, h3, h4, hy', hg', hwy, Int.natCast_nonneg, hb6, hb7, hll]))
                  | (refine ⟨_, _, [], PureE.toS (Right_spec t), by first | (simp; done) | (simp [hpF_add, hpF_lo]; done) | exact need_hp htop hn | exact need_hp2 htop hn, by simp, ?_⟩; (try simp only [go_sem, Nat.reduceLT, Nat.reduceEqDiff, Nat.reduceAdd, Nat.reduceSub, Nat.reduceMul, Nat.reduceLeDiff, reduceIte, reduceCtorEq, Int.lt_irrefl, Nat.reduceMod, Nat.reduceBEq, eq_self, false_and, and_false, hr, Bool.not_true, hb1, hb2, hb3, hz', hwz, hf, h1, h2, h3, h4, hy', hg', hwy, Int.natCast_nonneg, hb6, hb7, hll]))
                  | (refine ⟨_, [], [], PureE.call (Time_spec now) (by first | (simp; done) | (simp [hpF_add, hpF_lo]; done) | exact need_hp htop hn | exact need_hp2 htop hn), ?_⟩; (try simp only [go_sem, Nat.reduceLT, Nat.reduceEqDiff, Nat.reduceAdd, Nat.reduceSub, Nat.reduceMul, Nat.reduceLeDiff, reduceIte, reduceCtorEq, Int.lt_irrefl, Nat.reduceMod, Nat.reduceBEq, eq_self, false_and, and_false, hr, Bool.not_true, hb1, hb2, hb3, hz', hwz, hf, h1, h2, h3, h4, hy', hg', hwy, Int.natCast_nonneg, hb6, hb7, hll]))
                  | (refine ⟨_, _, [], PureE.toS (Time_spec now), by first | (simp; done) | (simp [hpF_add, hpF_lo]; done) | exact need_hp htop hn | exact need_hp2 htop hn, by simp, ?_⟩; (try simp only [go_sem, Nat.reduceLT, Nat.reduceEqDiff, Nat.reduceAdd, Nat.reduceSub, Nat.reduceMul, Nat.reduceLeDiff, reduceIte, reduceCtorEq, Int.lt_irrefl, Nat.reduceMod, Nat.reduceBEq, eq_self, false_and, and_false, hr, Bool.not_true, hb1, hb2, hb3, hz', hwz, hf, h1, h2, h3, h4, hy', hg', hwy, Int.natCast_nonneg, hb6, hb7, hll]))
                  | (refine ⟨_, [], [], PureE.call (Picture_spec puts) (by first | (simp; done) | (simp [hpF_add, hpF_lo]; done) | exact need_hp htop hn | exact need_hp2 htop hn), ?_⟩; (try simp only [go_sem, Nat.reduceLT, Nat.reduceEqDiff, Nat.reduceAdd, Nat.reduceSub, Nat.reduceMul, Nat.reduceLeDiff, reduceIte, reduceCtorEq, Int.lt_irrefl, Nat.reduceMod, Nat.reduceBEq, eq_self, false_and, and_false, hr, Bool.not_true, hb1, hb2, hb3, hz', hwz, hf, h1, h2, h3, h4, hy', hg', hwy, Int.natCast_nonneg, hb6, hb7, hll]))
                  | (refine ⟨_, _, [], PureE.toS (Picture_spec puts), by first | (simp; done) | (simp [hpF_add, hpF_lo]; done) | exact need_hp htop hn | exact need_hp2 htop hn, by simp, ?_⟩; (try simp only [go_sem, Nat.reduceLT, Nat.reduceEqDiff, Nat.reduceAdd, Nat.reduceSub, Nat.reduceMul, Nat.reduceLeDiff, reduceIte, reduceCtorEq, Int.lt_irrefl, Nat.reduceMod, Nat.reduceBEq, eq_self, false_and, and_false, hr, Bool.not_true, hb1, hb2, hb3, hz', hwz, hf, h1, h2, h3, h4, hy', hg', hwy, Int.natCast_nonneg, hb6, hb7, hll]))
                  | (refine ⟨_, [], [], PureE.call (SamePuts_spec f.puts puts) (by first | (simp; done) | (simp [hpF_add, hpF_lo]; done) | exact need_hp htop hn | exact need_hp2 htop hn), ?_⟩; (try simp only [go_sem, Nat.reduceLT, Nat.reduceEqDiff, Nat.reduceAdd, Nat.reduceSub, Nat.reduceMul, Nat.reduceLeDiff, reduceIte, reduceCtorEq, Int.lt_irrefl, Nat.reduceMod, Nat.reduceBEq, eq_self, false_and, and_false, hr, Bool.not_true, hb1, hb2, hb3, hz', hwz, hf, h1, h2, h3, h4, hy', hg', hwy, Int.natCast_nonneg, hb6, hb7, hll]))
                  | (refine ⟨_, _, [], PureE.toS (SamePuts_spec f.puts puts), by first | (simp; done) | (simp [hpF_add, hpF_lo]; done) | exact need_hp htop hn | exact need_hp2 htop hn, by simp, ?_⟩; (try simp only [go_sem, Nat.reduceLT, Nat.reduceEqDiff, Nat.reduceAdd, Nat.reduceSub, Nat.reduceMul, Nat.reduceLeDiff, reduceIte, reduceCtorEq, Int.lt_irrefl, Nat.reduceMod, Nat.reduceBEq, eq_self, false_and, and_false, hr, Bool.not_true, hb1, hb2, hb3, hz', hwz, hf, h1, h2, h3, h4, hy', hg', hwy, Int.natCast_nonneg, hb6, hb7, hll]))
                  | (refine ⟨_, [], [], PureE.call (SamePuts_spec g.puts puts) (by first | (simp; done) | (simp [hpF_add, hpF_lo]; done) | exact need_hp htop hn | exact need_hp2 htop hn), ?_⟩; (try simp only [go_sem, Nat.reduceLT, Nat.reduceEqDiff, Nat.reduceAdd, Nat.reduceSub, Nat.reduceMul, Nat.reduceLeDiff, reduceIte, reduceCtorEq, Int.lt_irrefl, Nat.reduceMod, Nat.reduceBEq, eq_self, false_and, and_false, hr, Bool.not_true, hb1, hb2, hb3, hz', hwz, hf, h1, h2, h3, h4, hy', hg', hwy, Int.natCast_nonneg, hb6, hb7, hll]))
                  | (refine ⟨_, _, [], PureE.toS (SamePuts_spec g.puts puts), by first | (simp; done) | (simp [hpF_add, hpF_lo]; done) | exact need_hp htop hn | exact need_hp2 htop hn, by simp, ?_⟩; (try simp only [go_sem, Nat.reduceLT, Nat.reduceEqDiff, Nat.reduceAdd, Nat.reduceSub, Nat.reduceMul, Nat.reduceLeDiff, reduceIte, reduceCtorEq, Int.lt_irrefl, Nat.reduceMod, Nat.reduceBEq, eq_self, false_and, and_false, hr, Bool.not_true, hb1, hb2, hb3, hz', hwz, hf, h1, h2, h3, h4, hy', hg', hwy, Int.natCast_nonneg, hb6, hb7, hll]))
                  | fail)
                rw [e0, e1]
              | false =>
                have e1 : refAddG t now puts = (⟨t.frames.take (t.frames.length - 1) ++ [⟨now, puts⟩], now⟩, 0) := by simp only [refAddG, hla, h1, h2, hlb, h4]; rfl
                repeat' (first
                  | (refine ⟨_, _, _, First_spec t (t.frames.length - 1) (by omega) (by omega) _ _, ?_⟩; simp only [Nat.add_assoc, go_sem, Nat.reduceLT, Nat.reduceEqDiff, Nat.reduceAdd, Nat.reduceSub, Nat.reduceMul, Nat.reduceLeDiff, reduceIte, reduceCtorEq, Int.lt_irrefl, Nat.reduceMod, Nat.reduceBEq, eq_self, false_and, and_false, hr, Bool.not_true, hb1, hb2, hb3, hz', hwz, hf, h1, h2, h3, h4, hy', hg', hwy, Int.natCast_nonneg, hb6, hb7, hll])
                  | refine wpA_seq ?_
                  | refine wpA_skip ?_
                  | (refine wpA_exit ?_)
                  | (refine hK _ _ ?_; clear hK K)
                  | (refine hK _ _ rfl ?_; clear hK K)
                  | (refine wpA_reg hT hE fun K hK => ?_; simp only [go_sem, Nat.reduceLT, Nat.reduceEqDiff, Nat.reduceAdd, Nat.reduceSub, Nat.reduceMul, Nat.reduceLeDiff, reduceIte, reduceCtorEq, Int.lt_irrefl, Nat.reduceMod, Nat.reduceBEq, eq_self, false_and, and_false, hr, Bool.not_true, hb1, hb2, hb3, hz', hwz, hf, h1, h2, h3, h4, hy', hg', hwy, Int.natCast_nonneg, hb6, hb7, hll])
                  | (refine wpA_drw hT hE hmix (by kernel_rfl) fun K hK => ?_; simp only [go_sem, Nat.reduceLT, Nat.reduceEqDiff, Nat.reduceAdd, Nat.reduceSub, Nat.reduceMul, Nat.reduceLeDiff, reduceIte, reduceCtorEq, Int.lt_irrefl, Nat.reduceMod, Nat.reduceBEq, eq_self, false_and, and_false, hr, Bool.not_true, hb1, hb2, hb3, hz', hwz, hf, h1, h2, h3, h4, hy', hg', hwy, Int.natCast_nonneg, hb6, hb7, hll])
                  | (refine gd_t (fun h => ?_) (fun h => ?_) <;> (try simp only [h, go_sem, Nat.reduceLT, Nat.reduceEqDiff, Nat.reduceAdd, Nat.reduceSub, Nat.reduceMul, Nat.reduceLeDiff, reduceIte, reduceCtorEq, Int.lt_irrefl, Nat.reduceMod, Nat.reduceBEq, eq_self, false_and, and_false, hr, Bool.not_true, hb1, hb2, hb3, hz', hwz, hf, h1, h2, h3, h4, hy', hg', hwy, Int.natCast_nonneg, hb6, hb7, hll]))
                  | (refine gd_f (fun h => ?_) (fun h => ?_) <;> (try simp only [h, go_sem, Nat.reduceLT, Nat.reduceEqDiff, Nat.reduceAdd, Nat.reduceSub, Nat.reduceMul, Nat.reduceLeDiff, reduceIte, reduceCtorEq, Int.lt_irrefl, Nat.reduceMod, Nat.reduceBEq, eq_self, false_and, and_false, hr, Bool.not_true, hb1, hb2, hb3, hz', hwz, hf, h1, h2, h3, h4, hy', hg', hwy, Int.natCast_nonneg, hb6, hb7, hll]))
                  | refine wpA_block ?_
                  | (refine wpA_fz 4 rfl ?_; simp only [go_sem, Nat.reduceLT, Nat.reduceEqDiff, Nat.reduceAdd, Nat.reduceSub, Nat.reduceMul, Nat.reduceLeDiff, reduceIte, reduceCtorEq, Int.lt_irrefl, Nat.reduceMod, Nat.reduceBEq, eq_self, false_and, and_false, hr, Bool.not_true, hb1, hb2, hb3, hz', hwz, hf, h1, h2, h3, h4, hy', hg', hwy, Int.natCast_nonneg, hb6, hb7, hll])
                  | (refine wpA_fz 2 rfl ?_; simp only [go_sem, Nat.reduceLT, Nat.reduceEqDiff, Nat.reduceAdd, Nat.reduceSub, Nat.reduceMul, Nat.reduceLeDiff, reduceIte, reduceCtorEq, Int.lt_irrefl, Nat.reduceMod, Nat.reduceBEq, eq_self, false_and, and_false, hr, Bool.not_true, hb1, hb2, hb3, hz', hwz, hf, h1, h2, h3, h4, hy', hg', hwy, Int.natCast_nonneg, hb6, hb7, hll])
                  | (refine wpA_cond rfl (fun h => ?_) (fun h => ?_) <;> (try (cases h; done)))
                  | (refine wpA_ret (fin_pure (.inl rfl) rfl (by simp only [go_sem, Nat.reduceLT, Nat.reduceEqDiff, Nat.reduceAdd, Nat.reduceSub, Nat.reduceMul, Nat.reduceLeDiff, reduceIte, reduceCtorEq, Int.lt_irrefl, Nat.reduceMod, Nat.reduceBEq, eq_self, false_and, and_false, hr, Bool.not_true, hb1, hb2, hb3, hz', hwz, hf, h1, h2, h3, h4, hy', hg', hwy, Int.natCast_nonneg, hb6, hb7, hll]; rfl) ?_ (hW _)); (try simp only [go_sem, Nat.reduceLT, Nat.reduceEqDiff, Nat.reduceAdd, Nat.reduceSub, Nat.reduceMul, Nat.reduceLeDiff, reduceIte, reduceCtorEq, Int.lt_irrefl, Nat.reduceMod, Nat.reduceBEq, eq_self, false_and, and_false, hr, Bool.not_true, hb1, hb2, hb3, hz', hwz, hf, h1, h2, h3, h4, hy', hg', hwy, Int.natCast_nonneg, hb6, hb7, hll]))
                  | (refine wpA_ret (fin_pureM (.inl rfl) (by simp only [go_sem, Nat.reduceLT, Nat.reduceEqDiff, Nat.reduceAdd, Nat.reduceSub, Nat.reduceMul, Nat.reduceLeDiff, reduceIte, reduceCtorEq, Int.lt_irrefl, Nat.reduceMod, Nat.reduceBEq, eq_self, false_and, and_false]) (by simp only [go_sem, Nat.reduceLT, Nat.reduceEqDiff, Nat.reduceAdd, Nat.reduceSub, Nat.reduceMul, Nat.reduceLeDiff, reduceIte, reduceCtorEq, Int.lt_irrefl, Nat.reduceMod, Nat.reduceBEq, eq_self, false_and, and_false, hr, Bool.not_true, hb1, hb2, hb3, hz', hwz, hf, h1, h2, h3, h4, hy', hg', hwy, Int.natCast_nonneg, hb6, hb7, hll]; rfl) ?_ (hW _)); (try simp only [go_sem, Nat.reduceLT, Nat.reduceEqDiff, Nat.reduceAdd, Nat.reduceSub, Nat.reduceMul, Nat.reduceLeDiff, reduceIte, reduceCtorEq, Int.lt_irrefl, Nat.reduceMod, Nat.reduceBEq, eq_self, false_and, and_false, hr, Bool.not_true, hb1, hb2, hb3, hz', hwz, hf, h1, h2, h3, h4, hy', hg', hwy, Int.natCast_nonneg, hb6, hb7, hll]))
                  | (refine ⟨_, [], [], PureE.call (Right_spec t) (by first | (simp; done) | (simp [hpF_add, hpF_lo]; done) | exact need_hp htop hn | exact need_hp2 htop hn), ?_⟩; (try simp only [go_sem, Nat.reduceLT, Nat.reduceEqDiff, Nat.reduceAdd, Nat.reduceSub, Nat.reduceMul, Nat.reduceLeDiff, reduceIte, reduceCtorEq, Int.lt_irrefl, Nat.reduceMod, Nat.reduceBEq, eq_self, false_and, and_false, hr, Bool.not_true, hb1, hb2, hb3, hz', hwz, hf, h1, h2, h3, h4, hy', hg', hwy, Int.natCast_nonneg, hb6, hb7, hll]))
                  | (refine ⟨_, _, [], PureE.toS (Right_spec t), by first | (simp; done) | (simp [hpF_add, hpF_lo]; done) | exact need_hp htop hn | exact need_hp2 htop hn, by simp, ?_⟩; (try simp only [go_sem, Nat.reduceLT, Nat.reduceEqDiff, Nat.reduceAdd, Nat.reduceSub, Nat.reduceMul, Nat.reduceLeDiff, reduceIte, reduceCtorEq, Int.lt_irrefl, Nat.reduceMod, Nat.reduceBEq, eq_self, false_and, and_false, hr, Bool.not_true, hb1, hb2, hb3, hz', hwz, hf, h1, h2, h3, h4, hy', hg', hwy, Int.natCast_nonneg, hb6, hb7, hll]))
                  | (refine ⟨_, [], [], PureE.call (Time_spec now) (by first | (simp; done) | (simp [hpF_add, hpF_lo]; done) | exact need_hp htop hn | exact need_hp2 htop hn), ?_⟩; (try simp only [go_sem, Nat.reduceLT, Nat.reduceEqDiff, Nat.reduceAdd, Nat.reduceSub, Nat.reduceMul, Nat.reduceLeDiff, reduceIte, reduceCtorEq, Int.lt_irrefl, Nat.reduceMod, Nat.reduceBEq, eq_self, false_and, and_false, hr, Bool.not_true, hb1, hb2, hb3, hz', hwz, hf, h1, h2, h3, h4, hy', hg', hwy, Int.natCast_nonneg, hb6, hb7, hll]))
                  | (refine ⟨_, _, [], PureE.toS (Time_spec now), by first | (simp; done) | (simp [hpF_add, hpF_lo]; done) | exact need_hp htop hn | exact need_hp2 htop hn, by simp, ?_⟩; (try simp only [go_sem, Nat.reduceLT, Nat.reduceEqDiff, Nat.reduceAdd, Nat.reduceSub, Nat.reduceMul, Nat.reduceLeDiff, reduceIte, reduceCtorEq, Int.lt_irrefl, Nat.reduceMod, Nat.reduceBEq, eq_self, false_and, and_false, hr, Bool.not_true, hb1, hb2, hb3, hz', hwz, hf, h1, h2, h3, h4, hy', hg', hwy, Int.natCast_nonneg, hb6, hb7, hll]))
                  | (refine ⟨_, [], [], PureE.call (Picture_spec puts) (by first | (simp; done) | (simp [hpF_add, hpF_lo]; done) | exact need_hp htop hn | exact need_hp2 htop hn), ?_⟩; (try simp only [go_sem, Nat.reduceLT, Nat.reduceEqDiff, Nat.reduceAdd, Nat.reduceSub, Nat.reduceMul, Nat.reduceLeDiff, reduceIte, reduceCtorEq, Int.lt_irrefl, Nat.reduceMod, Nat.reduceBEq, eq_self, false_and, and_false, hr, Bool.not_true, hb1, hb2, hb3, hz', hwz, hf, h1, h2, h3, h4, hy', hg', hwy, Int.natCast_nonneg, hb6, hb7, hll]))
                  | (refine ⟨_, _, [], PureE.toS (Picture_spec puts), by first | (simp; done) | (simp [hpF_add, hpF_lo]; done) | exact need_hp htop hn | exact need_hp2 htop hn, by simp, ?_⟩; (try simp only [go_sem, Nat.reduceLT, Nat.reduceEqDiff, Nat.reduceAdd, Nat.reduceSub, Nat.reduceMul, Nat.reduceLeDiff, reduceIte, reduceCtorEq, Int.lt_irrefl, Nat.reduceMod, Nat.reduceBEq, eq_self, false_and, and_false, hr, Bool.not_true, hb1, hb2, hb3, hz', hwz, hf, h1, h2, h3, h4, hy', hg', hwy, Int.natCast_nonneg, hb6, hb7, hll]))
                  | (refine ⟨_, [], [], PureE.call (SamePuts_spec f.puts puts) (by first | (simp; done) | (simp [hpF_add, hpF_lo]; done) | exact need_hp htop hn | exact need_hp2 htop hn), ?_⟩; (try simp only [go_sem, Nat.reduceLT, Nat.reduceEqDiff, Nat.reduceAdd, Nat.reduceSub, Nat.reduceMul, Nat.reduceLeDiff, reduceIte, reduceCtorEq, Int.lt_irrefl, Nat.reduceMod, Nat.reduceBEq, eq_self, false_and, and_false, hr, Bool.not_true, hb1, hb2, hb3, hz', hwz, hf, h1, h2, h3, h4, hy', hg', hwy, Int.natCast_nonneg, hb6, hb7, hll]))
                  | (refine ⟨_, _, [], PureE.toS (SamePuts_spec f.puts puts), by first | (simp; done) | (simp [hpF_add, hpF_lo]; done) | exact need_hp htop hn | exact need_hp2 htop hn, by simp, ?_⟩; (try simp only [go_sem, Nat.reduceLT, Nat.reduceEqDiff, Nat.reduceAdd, Nat.reduceSub, Nat.reduceMul, Nat.reduceLeDiff, reduceIte, reduceCtorEq, Int.lt_irrefl, Nat.reduceMod, Nat.reduceBEq, eq_self, false_and, and_false, hr, Bool.not_true, hb1, hb2, hb3, hz', hwz, hf, h1, h2, h3, h4, hy', hg', hwy, Int.natCast_nonneg, hb6, hb7, hll]))
                  | (refine ⟨_, [], [], PureE.call (SamePuts_spec g.puts puts) (by first | (simp; done) | (simp [hpF_add, hpF_lo]; done) | exact need_hp htop hn | exact need_hp2 htop hn), ?_⟩; (try simp only [go_sem, Nat.reduceLT, Nat.reduceEqDiff, Nat.reduceAdd, Nat.reduceSub, Nat.reduceMul, Nat.reduceLeDiff, reduceIte, reduceCtorEq, Int.lt_irrefl, Nat.reduceMod, Nat.reduceBEq, eq_self, false_and, and_false, hr, Bool.not_true, hb1, hb2, hb3, hz', hwz, hf, h1, h2, h3, h4, hy', hg', hwy, Int.natCast_nonneg, hb6, hb7, hll]))
                  | (refine ⟨_, _, [], PureE.toS (SamePuts_spec g.puts puts), by first | (simp; done) | (simp [hpF_add, hpF_lo]; done) | exact need_hp htop hn | exact need_hp2 htop hn, by simp, ?_⟩; (try simp only [go_sem, Nat.reduceLT, Nat.reduceEqDiff, Nat.reduceAdd, Nat.reduceSub, Nat.reduceMul, Nat.reduceLeDiff, reduceIte, reduceCtorEq, Int.lt_irrefl, Nat.reduceMod, Nat.reduceBEq, eq_self, false_and, and_false, hr, Bool.not_true, hb1, hb2, hb3, hz', hwz, hf, h1, h2, h3, h4, hy', hg', hwy, Int.natCast_nonneg, hb6, hb7, hll]))
                  | fail)
                rw [e0, e1, List.map_append]; rfl
end Go.Proofs.Ythlmfkeeneeaoaa

namespace Go.Proofs.Ythlmfkeeneeaoaa
open Go Go.Av

theorem over_len {t : Trace} (h : overF t = false) : t.frames.length ≤ 300 ∧ ∀ (i : Nat) (f : Frame), t.frames[i]? = some f → f.puts.length ≤ 30 := by
  simp only [overF, Bool.or_eq_false_iff] at h
  refine ⟨by have := of_decide_eq_false h.1; omega, fun i f hf => ?_⟩
  have h2 := List.any_eq_false.1 h.2 f (List.mem_of_getElem? hf)
  simp at h2; omega

theorem copied_spec (t : Trace) (h : overF t = false) : PureE Try.prog 11 [aTrace t] [] (aTrace t) := by
  intro F b hn
  refine callE_of hT (fn := Try.f11) rfl rfl rfl (by simp [fnt]) (by simp) fun htop hW => ?_
  obtain ⟨hl, hps⟩ := over_len h
  clear h
  repeat' (first
    | refine wpA_seq ?_
    | refine wpA_skip ?_
    | (refine wpA_exit ?_)
    | (refine hK _ _ ?_; clear hK K)
    | (refine hK _ _ rfl ?_; clear hK K)
    | (refine wpA_reg hT hE fun K hK => ?_; simp only [go_sem, Nat.reduceLT, Nat.reduceEqDiff, Nat.reduceAdd, Nat.reduceSub, Nat.reduceMul, Nat.reduceLeDiff, reduceIte, reduceCtorEq, Int.lt_irrefl, Nat.reduceMod, Nat.reduceBEq, eq_self, false_and, and_false])
    | (refine wpA_drw hT hE hmix (by kernel_rfl) fun K hK => ?_; simp only [go_sem, Nat.reduceLT, Nat.reduceEqDiff, Nat.reduceAdd, Nat.reduceSub, Nat.reduceMul, Nat.reduceLeDiff, reduceIte, reduceCtorEq, Int.lt_irrefl, Nat.reduceMod, Nat.reduceBEq, eq_self, false_and, and_false])
    | (refine gd_t (fun h => ?_) (fun h => ?_) <;> (try simp only [h, go_sem, Nat.reduceLT, Nat.reduceEqDiff, Nat.reduceAdd, Nat.reduceSub, Nat.reduceMul, Nat.reduceLeDiff, reduceIte, reduceCtorEq, Int.lt_irrefl, Nat.reduceMod, Nat.reduceBEq, eq_self, false_and, and_false]))
    | (refine gd_f (fun h => ?_) (fun h => ?_) <;> (try simp only [h, go_sem, Nat.reduceLT, Nat.reduceEqDiff, Nat.reduceAdd, Nat.reduceSub, Nat.reduceMul, Nat.reduceLeDiff, reduceIte, reduceCtorEq, Int.lt_irrefl, Nat.reduceMod, Nat.reduceBEq, eq_self, false_and, and_false]))
    | refine wpA_block ?_
    | (refine wpA_cond rfl (fun h => ?_) (fun h => ?_) <;> (try (cases h; done)))
    | (refine wpA_ret (fin_pure (.inl rfl) rfl (by simp only [go_sem, Nat.reduceLT, Nat.reduceEqDiff, Nat.reduceAdd, Nat.reduceSub, Nat.reduceMul, Nat.reduceLeDiff, reduceIte, reduceCtorEq, Int.lt_irrefl, Nat.reduceMod, Nat.reduceBEq, eq_self, false_and, and_false]; rfl) ?_ (hW _)); (try simp only [go_sem, Nat.reduceLT, Nat.reduceEqDiff, Nat.reduceAdd, Nat.reduceSub, Nat.reduceMul, Nat.reduceLeDiff, reduceIte, reduceCtorEq, Int.lt_irrefl, Nat.reduceMod, Nat.reduceBEq, eq_self, false_and, and_false]))
    | (refine wpA_ret (fin_pureM (.inl rfl) (by simp only [go_sem, Nat.reduceLT, Nat.reduceEqDiff, Nat.reduceAdd, Nat.reduceSub, Nat.reduceMul, Nat.reduceLeDiff, reduceIte, reduceCtorEq, Int.lt_irrefl, Nat.reduceMod, Nat.reduceBEq, eq_self, false_and, and_false]) (by simp only [go_sem, Nat.reduceLT, Nat.reduceEqDiff, Nat.reduceAdd, Nat.reduceSub, Nat.reduceMul, Nat.reduceLeDiff, reduceIte, reduceCtorEq, Int.lt_irrefl, Nat.reduceMod, Nat.reduceBEq, eq_self, false_and, and_false]; rfl) ?_ (hW _)); (try simp only [go_sem, Nat.reduceLT, Nat.reduceEqDiff, Nat.reduceAdd, Nat.reduceSub, Nat.reduceMul, Nat.reduceLeDiff, reduceIte, reduceCtorEq, Int.lt_irrefl, Nat.reduceMod, Nat.reduceBEq, eq_self, false_and, and_false]))
    | fail)
  refine wpA_nilOC 2 0 58 2 rfl rfl fun K hK => ?_
  try simp only [go_sem, Nat.reduceLT, Nat.reduceEqDiff, Nat.reduceAdd, Nat.reduceSub, Nat.reduceMul, Nat.reduceLeDiff, reduceIte, reduceCtorEq, Int.lt_irrefl, Nat.reduceMod, Nat.reduceBEq, eq_self, false_and, and_false]
  refine hK _ ?_; clear hK K
  refine wpA_kp [2, 3, 10, 11, 12] [1, 2, 3] (by simp) (by simp) rfl fun K hK => ?_
  simp only [go_sem, Nat.reduceLT, Nat.reduceEqDiff, Nat.reduceAdd, Nat.reduceSub, Nat.reduceMul, Nat.reduceLeDiff, reduceIte, reduceCtorEq, Int.lt_irrefl, Nat.reduceMod, Nat.reduceBEq, eq_self, false_and, and_false, hW _]
  refine hK _ ?_; clear hK K
  refine wpA_for t.frames.length (fun i => { tm := [(2, .ptr (b + 0) 0), (3, .ptr (b + 1) 0), (10, .sl (t.frames.map aFrame)), (11, .v (.int .i64 t.frames.length)), (12, .v (.int .i64 i))], F := F, L := [.blk 24 [.v (.slice none 0 0), .v (.int .i64 0)], .blk 24 [.own (b + 2) i, .v (.int .i64 t.fin)], .row 58 2 ((t.frames.take i).map aFrame)], ds := [] }) (fun i => True) rfl trivial ?_ ?_
  · intro i hi _
    obtain ⟨f, hf, _, htake⟩ := get_of_lt hi
    have hp := hps i f hf
    have hi' : ((i : Int) < t.frames.length) := by omega
    have hw := wrap1 hi (by omega)
    have hmin : min i t.frames.length = i := by omega
    have hb1 : (i + 1) * 32 ≤ 140737488355328 := by omega
    have hb2 : i ≤ 9223372036854775806 := by omega
    have hb3 : f.puts.length * 16 ≤ 140737488355328 := by omega
    have hb4 : f.puts.length ≤ 9223372036854775807 := by omega
    repeat' (first
      | refine wpA_seq ?_
      | refine wpA_skip ?_
      | (refine wpA_exit ?_)
      | (refine hK _ _ ?_; clear hK K)
      | (refine hK _ _ rfl ?_; clear hK K)
      | (refine wpA_reg hT hE fun K hK => ?_; simp only [go_sem, Nat.reduceLT, Nat.reduceEqDiff, Nat.reduceAdd, Nat.reduceSub, Nat.reduceMul, Nat.reduceLeDiff, reduceIte, reduceCtorEq, Int.lt_irrefl, Nat.reduceMod, Nat.reduceBEq, eq_self, false_and, and_false, hf, Int.natCast_nonneg, hi', hb1, hb2, hb3, hb4, List.length_take, hmin])
      | (refine wpA_drw hT hE hmix (by kernel_rfl) fun K hK => ?_; simp only [go_sem, Nat.reduceLT, Nat.reduceEqDiff, Nat.reduceAdd, Nat.reduceSub, Nat.reduceMul, Nat.reduceLeDiff, reduceIte, reduceCtorEq, Int.lt_irrefl, Nat.reduceMod, Nat.reduceBEq, eq_self, false_and, and_false, hf, Int.natCast_nonneg, hi', hb1, hb2, hb3, hb4, List.length_take, hmin])
      | (refine gd_t (fun h => ?_) (fun h => ?_) <;> (try simp only [h, go_sem, Nat.reduceLT, Nat.reduceEqDiff, Nat.reduceAdd, Nat.reduceSub, Nat.reduceMul, Nat.reduceLeDiff, reduceIte, reduceCtorEq, Int.lt_irrefl, Nat.reduceMod, Nat.reduceBEq, eq_self, false_and, and_false, hf, Int.natCast_nonneg, hi', hb1, hb2, hb3, hb4, List.length_take, hmin]))
      | (refine gd_f (fun h => ?_) (fun h => ?_) <;> (try simp only [h, go_sem, Nat.reduceLT, Nat.reduceEqDiff, Nat.reduceAdd, Nat.reduceSub, Nat.reduceMul, Nat.reduceLeDiff, reduceIte, reduceCtorEq, Int.lt_irrefl, Nat.reduceMod, Nat.reduceBEq, eq_self, false_and, and_false, hf, Int.natCast_nonneg, hi', hb1, hb2, hb3, hb4, List.length_take, hmin]))
      | refine wpA_block ?_
      | (refine wpA_cond rfl (fun h => ?_) (fun h => ?_) <;> (try (cases h; done)))
      | (refine wpA_ret (fin_pure (.inl rfl) rfl (by simp only [go_sem, Nat.reduceLT, Nat.reduceEqDiff, Nat.reduceAdd, Nat.reduceSub, Nat.reduceMul, Nat.reduceLeDiff, reduceIte, reduceCtorEq, Int.lt_irrefl, Nat.reduceMod, Nat.reduceBEq, eq_self, false_and, and_false, hf, Int.natCast_nonneg, hi', hb1, hb2, hb3, hb4, List.length_take, hmin]; rfl) ?_ (hW _)); (try simp only [go_sem, Nat.reduceLT, Nat.reduceEqDiff, Nat.reduceAdd, Nat.reduceSub, Nat.reduceMul, Nat.reduceLeDiff, reduceIte, reduceCtorEq, Int.lt_irrefl, Nat.reduceMod, Nat.reduceBEq, eq_self, false_and, and_false, hf, Int.natCast_nonneg, hi', hb1, hb2, hb3, hb4, List.length_take, hmin]))
      | (refine wpA_ret (fin_pureM (.inl rfl) (by simp only [go_sem, Nat.reduceLT, Nat.reduceEqDiff, Nat.reduceAdd, Nat.reduceSub, Nat.reduceMul, Nat.reduceLeDiff, reduceIte, reduceCtorEq, Int.lt_irrefl, Nat.reduceMod, Nat.reduceBEq, eq_self, false_and, and_false]) (by simp only [go_sem, Nat.reduceLT, Nat.reduceEqDiff, Nat.reduceAdd, Nat.reduceSub, Nat.reduceMul, Nat.reduceLeDiff, reduceIte, reduceCtorEq, Int.lt_irrefl, Nat.reduceMod, Nat.reduceBEq, eq_self, false_and, and_false, hf, Int.natCast_nonneg, hi', hb1, hb2, hb3, hb4, List.length_take, hmin]; rfl) ?_ (hW _)); (try simp only [go_sem, Nat.reduceLT, Nat.reduceEqDiff, Nat.reduceAdd, Nat.reduceSub, Nat.reduceMul, Nat.reduceLeDiff, reduceIte, reduceCtorEq, Int.lt_irrefl, Nat.reduceMod, Nat.reduceBEq, eq_self, false_and, and_false, hf, Int.natCast_nonneg, hi', hb1, hb2, hb3, hb4, List.length_take, hmin]))
      | fail)
    refine ⟨(wk_fz 5 rfl).trans (wk_to (wk_kp [2, 3, 10, 11, 12] [0, 1, 7] (by simp) (by simp) rfl) (by simp only [go_sem, Nat.reduceLT, Nat.reduceEqDiff, Nat.reduceAdd, Nat.reduceSub, Nat.reduceMul, Nat.reduceLeDiff, reduceIte, reduceCtorEq, Int.lt_irrefl, Nat.reduceMod, Nat.reduceBEq, eq_self, false_and, and_false, hW _,  hw, htake, List.map_append])), ?_⟩
    trivial
  · intro _
    repeat' (first
      | refine wpA_seq ?_
      | refine wpA_skip ?_
      | (refine wpA_exit ?_)
      | (refine hK _ _ ?_; clear hK K)
      | (refine hK _ _ rfl ?_; clear hK K)
      | (refine wpA_reg hT hE fun K hK => ?_; simp only [go_sem, Nat.reduceLT, Nat.reduceEqDiff, Nat.reduceAdd, Nat.reduceSub, Nat.reduceMul, Nat.reduceLeDiff, reduceIte, reduceCtorEq, Int.lt_irrefl, Nat.reduceMod, Nat.reduceBEq, eq_self, false_and, and_false])
      | (refine wpA_drw hT hE hmix (by kernel_rfl) fun K hK => ?_; simp only [go_sem, Nat.reduceLT, Nat.reduceEqDiff, Nat.reduceAdd, Nat.reduceSub, Nat.reduceMul, Nat.reduceLeDiff, reduceIte, reduceCtorEq, Int.lt_irrefl, Nat.reduceMod, Nat.reduceBEq, eq_self, false_and, and_false])
      | (refine gd_t (fun h => ?_) (fun h => ?_) <;> (try simp only [h, go_sem, Nat.reduceLT, Nat.reduceEqDiff, Nat.reduceAdd, Nat.reduceSub, Nat.reduceMul, Nat.reduceLeDiff, reduceIte, reduceCtorEq, Int.lt_irrefl, Nat.reduceMod, Nat.reduceBEq, eq_self, false_and, and_false]))
      | (refine gd_f (fun h => ?_) (fun h => ?_) <;> (try simp only [h, go_sem, Nat.reduceLT, Nat.reduceEqDiff, Nat.reduceAdd, Nat.reduceSub, Nat.reduceMul, Nat.reduceLeDiff, reduceIte, reduceCtorEq, Int.lt_irrefl, Nat.reduceMod, Nat.reduceBEq, eq_self, false_and, and_false]))
      | refine wpA_block ?_
      | (refine wpA_fz 2 rfl ?_; simp only [go_sem, Nat.reduceLT, Nat.reduceEqDiff, Nat.reduceAdd, Nat.reduceSub, Nat.reduceMul, Nat.reduceLeDiff, reduceIte, reduceCtorEq, Int.lt_irrefl, Nat.reduceMod, Nat.reduceBEq, eq_self, false_and, and_false])
      | (refine wpA_cond rfl (fun h => ?_) (fun h => ?_) <;> (try (cases h; done)))
      | (refine wpA_ret (fin_pure (.inl rfl) rfl (by simp only [go_sem, Nat.reduceLT, Nat.reduceEqDiff, Nat.reduceAdd, Nat.reduceSub, Nat.reduceMul, Nat.reduceLeDiff, reduceIte, reduceCtorEq, Int.lt_irrefl, Nat.reduceMod, Nat.reduceBEq, eq_self, false_and, and_false]; rfl) ?_ (hW _)); (try simp only [go_sem, Nat.reduceLT, Nat.reduceEqDiff, Nat.reduceAdd, Nat.reduceSub, Nat.reduceMul, Nat.reduceLeDiff, reduceIte, reduceCtorEq, Int.lt_irrefl, Nat.reduceMod, Nat.reduceBEq, eq_self, false_and, and_false]))
      | (refine wpA_ret (fin_pureM (.inl rfl) (by simp only [go_sem, Nat.reduceLT, Nat.reduceEqDiff, Nat.reduceAdd, Nat.reduceSub, Nat.reduceMul, Nat.reduceLeDiff, reduceIte, reduceCtorEq, Int.lt_irrefl, Nat.reduceMod, Nat.reduceBEq, eq_self, false_and, and_false]) (by simp only [go_sem, Nat.reduceLT, Nat.reduceEqDiff, Nat.reduceAdd, Nat.reduceSub, Nat.reduceMul, Nat.reduceLeDiff, reduceIte, reduceCtorEq, Int.lt_irrefl, Nat.reduceMod, Nat.reduceBEq, eq_self, false_and, and_false]; rfl) ?_ (hW _)); (try simp only [go_sem, Nat.reduceLT, Nat.reduceEqDiff, Nat.reduceAdd, Nat.reduceSub, Nat.reduceMul, Nat.reduceLeDiff, reduceIte, reduceCtorEq, Int.lt_irrefl, Nat.reduceMod, Nat.reduceBEq, eq_self, false_and, and_false]))
      | fail)
    simp [AVal.sub, subL_aFrame, AVal.nz]

/-! moves -/
def moveB (l : List Span) (i : Nat) : Bool := match l[i - 1]?, l[i]? with
  | some s, some u => s.till == u.since
  | _, _ => false
/-- How many of the first i spans begin where the one before ends. -/
def movesTo (l : List Span) : Nat → Int
  | 0 => 0
  | i + 1 => if i = 0 then 0 else movesTo l i + (if moveB l i = true then 1 else 0)
theorem movesTo_bd (l : List Span) : ∀ i, 0 ≤ movesTo l i ∧ movesTo l i ≤ i
  | 0 => by simp [movesTo]
  | i + 1 => by
    have := movesTo_bd l i
    simp only [movesTo]
    split
    · omega
    · split <;> omega
theorem movesTo_step (l : List Span) {i : Nat} (h : 0 < i) : movesTo l (i + 1) = movesTo l i + (if moveB l i = true then 1 else 0) := by
  rw [movesTo, if_neg (by omega)]
theorem movesTo_1 (l : List Span) : movesTo l 1 = 0 := rfl

theorem Moves_spec (t : Trace) (v : Int) : PureE Try.prog 21 [aTrace t, .v (.int .i64 v)] [] (.v (.int .i64 (movesTo (spansF t v) (spansF t v).length))) := by
  intro F b hn
  refine callE_of hT (fn := Try.f21) rfl rfl rfl (by simp [fnt]) (by simp) fun htop hW => ?_
  have hlen : (spansF t v).length ≤ 32000 := by
    unfold spansF
    split
    · rename_i hr
      have := spansTo_len hr v t.frames.length
      have := right_len hr
      omega
    · simp
  obtain ⟨l, hl⟩ : ∃ l, spansF t v = l := ⟨_, rfl⟩
  have hsp := Spans_spec t v
  rw [hl] at hlen hsp ⊢
  repeat' (first
    | refine wpA_seq ?_
    | refine wpA_skip ?_
    | (refine wpA_exit ?_)
    | (refine hK _ _ ?_; clear hK K)
    | (refine hK _ _ rfl ?_; clear hK K)
    | (refine wpA_reg hT hE fun K hK => ?_; simp only [go_sem, Nat.reduceLT, Nat.reduceEqDiff, Nat.reduceAdd, Nat.reduceSub, Nat.reduceMul, Nat.reduceLeDiff, reduceIte, reduceCtorEq, Int.lt_irrefl, Nat.reduceMod, Nat.reduceBEq, eq_self, false_and, and_false])
    | (refine wpA_drw hT hE hmix (by kernel_rfl) fun K hK => ?_; simp only [go_sem, Nat.reduceLT, Nat.reduceEqDiff, Nat.reduceAdd, Nat.reduceSub, Nat.reduceMul, Nat.reduceLeDiff, reduceIte, reduceCtorEq, Int.lt_irrefl, Nat.reduceMod, Nat.reduceBEq, eq_self, false_and, and_false])
    | (refine gd_t (fun h => ?_) (fun h => ?_) <;> (try simp only [h, go_sem, Nat.reduceLT, Nat.reduceEqDiff, Nat.reduceAdd, Nat.reduceSub, Nat.reduceMul, Nat.reduceLeDiff, reduceIte, reduceCtorEq, Int.lt_irrefl, Nat.reduceMod, Nat.reduceBEq, eq_self, false_and, and_false]))
    | (refine gd_f (fun h => ?_) (fun h => ?_) <;> (try simp only [h, go_sem, Nat.reduceLT, Nat.reduceEqDiff, Nat.reduceAdd, Nat.reduceSub, Nat.reduceMul, Nat.reduceLeDiff, reduceIte, reduceCtorEq, Int.lt_irrefl, Nat.reduceMod, Nat.reduceBEq, eq_self, false_and, and_false]))
    | refine wpA_block ?_
    | (refine wpA_cond rfl (fun h => ?_) (fun h => ?_) <;> (try (cases h; done)))
    | (refine wpA_ret (fin_pure (.inl rfl) rfl (by simp only [go_sem, Nat.reduceLT, Nat.reduceEqDiff, Nat.reduceAdd, Nat.reduceSub, Nat.reduceMul, Nat.reduceLeDiff, reduceIte, reduceCtorEq, Int.lt_irrefl, Nat.reduceMod, Nat.reduceBEq, eq_self, false_and, and_false]; rfl) ?_ (hW _)); (try simp only [go_sem, Nat.reduceLT, Nat.reduceEqDiff, Nat.reduceAdd, Nat.reduceSub, Nat.reduceMul, Nat.reduceLeDiff, reduceIte, reduceCtorEq, Int.lt_irrefl, Nat.reduceMod, Nat.reduceBEq, eq_self, false_and, and_false]))
    | (refine wpA_ret (fin_pureM (.inl rfl) (by simp only [go_sem, Nat.reduceLT, Nat.reduceEqDiff, Nat.reduceAdd, Nat.reduceSub, Nat.reduceMul, Nat.reduceLeDiff, reduceIte, reduceCtorEq, Int.lt_irrefl, Nat.reduceMod, Nat.reduceBEq, eq_self, false_and, and_false]) (by simp only [go_sem, Nat.reduceLT, Nat.reduceEqDiff, Nat.reduceAdd, Nat.reduceSub, Nat.reduceMul, Nat.reduceLeDiff, reduceIte, reduceCtorEq, Int.lt_irrefl, Nat.reduceMod, Nat.reduceBEq, eq_self, false_and, and_false]; rfl) ?_ (hW _)); (try simp only [go_sem, Nat.reduceLT, Nat.reduceEqDiff, Nat.reduceAdd, Nat.reduceSub, Nat.reduceMul, Nat.reduceLeDiff, reduceIte, reduceCtorEq, Int.lt_irrefl, Nat.reduceMod, Nat.reduceBEq, eq_self, false_and, and_false]))
    | (refine ⟨_, [], [], PureE.call (hsp) (by first | (simp; done) | (simp [hpF_add, hpF_lo]; done) | exact need_hp htop hn | exact need_hp2 htop hn), ?_⟩; (try simp only [go_sem, Nat.reduceLT, Nat.reduceEqDiff, Nat.reduceAdd, Nat.reduceSub, Nat.reduceMul, Nat.reduceLeDiff, reduceIte, reduceCtorEq, Int.lt_irrefl, Nat.reduceMod, Nat.reduceBEq, eq_self, false_and, and_false]))
    | (refine ⟨_, _, [], PureE.toS (hsp), by first | (simp; done) | (simp [hpF_add, hpF_lo]; done) | exact need_hp htop hn | exact need_hp2 htop hn, by simp, ?_⟩; (try simp only [go_sem, Nat.reduceLT, Nat.reduceEqDiff, Nat.reduceAdd, Nat.reduceSub, Nat.reduceMul, Nat.reduceLeDiff, reduceIte, reduceCtorEq, Int.lt_irrefl, Nat.reduceMod, Nat.reduceBEq, eq_self, false_and, and_false]))
    | fail)
  refine wpA_kp [5, 6, 7] [] (by simp) (by simp) rfl fun K hK => ?_
  simp only [go_sem, Nat.reduceLT, Nat.reduceEqDiff, Nat.reduceAdd, Nat.reduceSub, Nat.reduceMul, Nat.reduceLeDiff, reduceIte, reduceCtorEq, Int.lt_irrefl, Nat.reduceMod, Nat.reduceBEq, eq_self, false_and, and_false, hW _]
  refine hK _ ?_; clear hK K
  refine wpA_loopI (fun m s => ∃ i, i + m = max l.length 1 ∧ 1 ≤ i ∧ s = { tm := [(5, .v (.int .i64 (movesTo l i))), (6, .sl (l.map aSpan)), (7, .v (.int .i64 i))], F := F, L := [], ds := [] }) (max l.length 1 - 1) ⟨1, by omega, by omega, rfl⟩ ?_
  rintro m s ⟨i, hi, h1, rfl⟩
  by_cases hlt : i < l.length
  · obtain ⟨u, hu, _, _⟩ := get_of_lt hlt
    obtain ⟨s, hs, _, _⟩ := get_of_lt (l := l) (i := i - 1) (by omega)
    have hi' : ((i : Int) < l.length) := by omega
    have hw := wrap1 hlt (by omega)
    have hwp := wrapP (i := i) (n := l.length) hlt h1 (by omega)
    have hbd := movesTo_bd l i
    have hwm : IntKind.i64.wrap (movesTo l i + 1) = movesTo l i + 1 := by rw [i64_id (by omega) (by omega)]
    have hmb : moveB l i = (s.till == u.since) := by simp [moveB, hs, hu]
    have hst := movesTo_step l h1
    repeat' (first
      | refine wpA_seq ?_
      | refine wpA_skip ?_
      | (refine wpA_exit ?_)
      | (refine hK _ _ ?_; clear hK K)
      | (refine hK _ _ rfl ?_; clear hK K)
      | (refine wpA_reg hT hE fun K hK => ?_; simp only [go_sem, Nat.reduceLT, Nat.reduceEqDiff, Nat.reduceAdd, Nat.reduceSub, Nat.reduceMul, Nat.reduceLeDiff, reduceIte, reduceCtorEq, Int.lt_irrefl, Nat.reduceMod, Nat.reduceBEq, eq_self, false_and, and_false, hu, hs, hi', hwp, Int.natCast_nonneg])
      | (refine wpA_drw hT hE hmix (by kernel_rfl) fun K hK => ?_; simp only [go_sem, Nat.reduceLT, Nat.reduceEqDiff, Nat.reduceAdd, Nat.reduceSub, Nat.reduceMul, Nat.reduceLeDiff, reduceIte, reduceCtorEq, Int.lt_irrefl, Nat.reduceMod, Nat.reduceBEq, eq_self, false_and, and_false, hu, hs, hi', hwp, Int.natCast_nonneg])
      | (refine gd_t (fun h => ?_) (fun h => ?_) <;> (try simp only [h, go_sem, Nat.reduceLT, Nat.reduceEqDiff, Nat.reduceAdd, Nat.reduceSub, Nat.reduceMul, Nat.reduceLeDiff, reduceIte, reduceCtorEq, Int.lt_irrefl, Nat.reduceMod, Nat.reduceBEq, eq_self, false_and, and_false, hu, hs, hi', hwp, Int.natCast_nonneg]))
      | (refine gd_f (fun h => ?_) (fun h => ?_) <;> (try simp only [h, go_sem, Nat.reduceLT, Nat.reduceEqDiff, Nat.reduceAdd, Nat.reduceSub, Nat.reduceMul, Nat.reduceLeDiff, reduceIte, reduceCtorEq, Int.lt_irrefl, Nat.reduceMod, Nat.reduceBEq, eq_self, false_and, and_false, hu, hs, hi', hwp, Int.natCast_nonneg]))
      | refine wpA_block ?_
      | (refine wpA_cond rfl (fun h => ?_) (fun h => ?_) <;> (try (cases h; done)))
      | (refine wpA_ret (fin_pure (.inl rfl) rfl (by simp only [go_sem, Nat.reduceLT, Nat.reduceEqDiff, Nat.reduceAdd, Nat.reduceSub, Nat.reduceMul, Nat.reduceLeDiff, reduceIte, reduceCtorEq, Int.lt_irrefl, Nat.reduceMod, Nat.reduceBEq, eq_self, false_and, and_false, hu, hs, hi', hwp, Int.natCast_nonneg]; rfl) ?_ (hW _)); (try simp only [go_sem, Nat.reduceLT, Nat.reduceEqDiff, Nat.reduceAdd, Nat.reduceSub, Nat.reduceMul, Nat.reduceLeDiff, reduceIte, reduceCtorEq, Int.lt_irrefl, Nat.reduceMod, Nat.reduceBEq, eq_self, false_and, and_false, hu, hs, hi', hwp, Int.natCast_nonneg]))
      | (refine wpA_ret (fin_pureM (.inl rfl) (by simp only [go_sem, Nat.reduceLT, Nat.reduceEqDiff, Nat.reduceAdd, Nat.reduceSub, Nat.reduceMul, Nat.reduceLeDiff, reduceIte, reduceCtorEq, Int.lt_irrefl, Nat.reduceMod, Nat.reduceBEq, eq_self, false_and, and_false]) (by simp only [go_sem, Nat.reduceLT, Nat.reduceEqDiff, Nat.reduceAdd, Nat.reduceSub, Nat.reduceMul, Nat.reduceLeDiff, reduceIte, reduceCtorEq, Int.lt_irrefl, Nat.reduceMod, Nat.reduceBEq, eq_self, false_and, and_false, hu, hs, hi', hwp, Int.natCast_nonneg]; rfl) ?_ (hW _)); (try simp only [go_sem, Nat.reduceLT, Nat.reduceEqDiff, Nat.reduceAdd, Nat.reduceSub, Nat.reduceMul, Nat.reduceLeDiff, reduceIte, reduceCtorEq, Int.lt_irrefl, Nat.reduceMod, Nat.reduceBEq, eq_self, false_and, and_false, hu, hs, hi', hwp, Int.natCast_nonneg]))
      | fail)
    all_goals
      refine ⟨_, m - 1, wk_kp [5, 6, 7] [] (by simp) (by simp) rfl, ⟨i + 1, by omega, by omega, ?_⟩, by omega⟩
      rw [hst, hmb, h]
      try simp only [go_sem, Nat.reduceLT, Nat.reduceEqDiff, Nat.reduceAdd, Nat.reduceSub, Nat.reduceMul, Nat.reduceLeDiff, reduceIte, reduceCtorEq, Int.lt_irrefl, Nat.reduceMod, Nat.reduceBEq, eq_self, false_and, and_false, hW _, hw, hwm, Int.add_zero]
  · have hi' : ¬ ((i : Int) < l.length) := by omega
    repeat' (first
      | refine wpA_seq ?_
      | refine wpA_skip ?_
      | (refine wpA_exit ?_)
      | (refine hK _ _ ?_; clear hK K)
      | (refine hK _ _ rfl ?_; clear hK K)
      | (refine wpA_reg hT hE fun K hK => ?_; simp only [go_sem, Nat.reduceLT, Nat.reduceEqDiff, Nat.reduceAdd, Nat.reduceSub, Nat.reduceMul, Nat.reduceLeDiff, reduceIte, reduceCtorEq, Int.lt_irrefl, Nat.reduceMod, Nat.reduceBEq, eq_self, false_and, and_false, hi'])
      | (refine wpA_drw hT hE hmix (by kernel_rfl) fun K hK => ?_; simp only [go_sem, Nat.reduceLT, Nat.reduceEqDiff, Nat.reduceAdd, Nat.reduceSub, Nat.reduceMul, Nat.reduceLeDiff, reduceIte, reduceCtorEq, Int.lt_irrefl, Nat.reduceMod, Nat.reduceBEq, eq_self, false_and, and_false, hi'])
      | (refine gd_t (fun h => ?_) (fun h => ?_) <;> (try simp only [h, go_sem, Nat.reduceLT, Nat.reduceEqDiff, Nat.reduceAdd, Nat.reduceSub, Nat.reduceMul, Nat.reduceLeDiff, reduceIte, reduceCtorEq, Int.lt_irrefl, Nat.reduceMod, Nat.reduceBEq, eq_self, false_and, and_false, hi']))
      | (refine gd_f (fun h => ?_) (fun h => ?_) <;> (try simp only [h, go_sem, Nat.reduceLT, Nat.reduceEqDiff, Nat.reduceAdd, Nat.reduceSub, Nat.reduceMul, Nat.reduceLeDiff, reduceIte, reduceCtorEq, Int.lt_irrefl, Nat.reduceMod, Nat.reduceBEq, eq_self, false_and, and_false, hi']))
      | refine wpA_block ?_
      | (refine wpA_cond rfl (fun h => ?_) (fun h => ?_) <;> (try (cases h; done)))
      | (refine wpA_ret (fin_pure (.inl rfl) rfl (by simp only [go_sem, Nat.reduceLT, Nat.reduceEqDiff, Nat.reduceAdd, Nat.reduceSub, Nat.reduceMul, Nat.reduceLeDiff, reduceIte, reduceCtorEq, Int.lt_irrefl, Nat.reduceMod, Nat.reduceBEq, eq_self, false_and, and_false, hi']; rfl) ?_ (hW _)); (try simp only [go_sem, Nat.reduceLT, Nat.reduceEqDiff, Nat.reduceAdd, Nat.reduceSub, Nat.reduceMul, Nat.reduceLeDiff, reduceIte, reduceCtorEq, Int.lt_irrefl, Nat.reduceMod, Nat.reduceBEq, eq_self, false_and, and_false, hi']))
      | (refine wpA_ret (fin_pureM (.inl rfl) (by simp only [go_sem, Nat.reduceLT, Nat.reduceEqDiff, Nat.reduceAdd, Nat.reduceSub, Nat.reduceMul, Nat.reduceLeDiff, reduceIte, reduceCtorEq, Int.lt_irrefl, Nat.reduceMod, Nat.reduceBEq, eq_self, false_and, and_false]) (by simp only [go_sem, Nat.reduceLT, Nat.reduceEqDiff, Nat.reduceAdd, Nat.reduceSub, Nat.reduceMul, Nat.reduceLeDiff, reduceIte, reduceCtorEq, Int.lt_irrefl, Nat.reduceMod, Nat.reduceBEq, eq_self, false_and, and_false, hi']; rfl) ?_ (hW _)); (try simp only [go_sem, Nat.reduceLT, Nat.reduceEqDiff, Nat.reduceAdd, Nat.reduceSub, Nat.reduceMul, Nat.reduceLeDiff, reduceIte, reduceCtorEq, Int.lt_irrefl, Nat.reduceMod, Nat.reduceBEq, eq_self, false_and, and_false, hi']))
      | fail)
    rcases Nat.eq_zero_or_pos l.length with hz | hz
    · have : i = 1 := by omega
      rw [hz, this]; rfl
    · have : i = l.length := by omega
      rw [this]
end Go.Proofs.Ythlmfkeeneeaoaa

namespace Go.Av
theorem need_row {F : Hp} {b k : Nat} {L : List AObj} {o : AObj} (h : L[k]? = some o) : ∀ p ∈ [(b + k, o)], hpF F b L p.1 = some p.2 := fun p hp => by
  simp only [List.mem_singleton] at hp; subst hp; rw [hpF_add]; exact h
theorem lend0 {P : Program} {f : FuncId} {args args' : List AVal} {need : List (Nat × AObj)} {v : AVal} {sets : List (Nat × AObj)} (h : CallS P f args need v sets) (ha : nzL args' = args) : CallS P f args' need v sets := by
  intro F b hn hlt
  have h' := h F b hn hlt
  exact ⟨h'.1, h'.2.1, fun c cargs H htop hr => h'.2.2 c cargs H htop (by rw [← ha]; exact nz_relL _ _ hr)⟩
end Go.Av
namespace Go.Proofs.Ythlmfkeeneeaoaa
open Go Go.Av

def tr1 : Trace := ⟨[⟨0, [⟨1, 0⟩]⟩], 0⟩
def tr2 : Trace := ⟨[⟨0, [⟨1, 0⟩]⟩, ⟨5, [⟨2, 0⟩, ⟨1, 1⟩]⟩], 5⟩
def tr3 : Trace := ⟨[⟨0, [⟨1, 0⟩]⟩, ⟨5, [⟨2, 0⟩, ⟨1, 1⟩]⟩], 9⟩
theorem w1 : addF ⟨[], 0⟩ 0 [⟨1, 0⟩] = (tr1, 0) := by decide
theorem w2 : addF tr1 5 [⟨2, 0⟩, ⟨1, 1⟩] = (tr2, 0) := by decide
theorem w3 : passF tr2 9 = (tr3, 0) := by decide
theorem w4 : longF (fun p => p.vcpu == 1) tr3 0 9 = (9, 0) := by decide
theorem w5 : movesTo (spansF tr3 1) (spansF tr3 1).length = 1 := by decide

theorem wakes_spec : PureE Try.prog 9 [] [] (.v (.bool true)) := by
  intro F b hn
  refine callE_of hT (fn := Try.f9) rfl rfl rfl (by simp [fnt]) (by simp) fun htop hW => ?_
  have a1 := Add_spec ⟨[], 0⟩ 0 [⟨1, 0⟩]
  rw [w1] at a1
  have a2 := Add_spec tr1 5 [⟨2, 0⟩, ⟨1, 1⟩]
  rw [w2] at a2
  have a3 := Pass_spec tr2 9
  rw [w3] at a3
  have a4 := Ran_spec tr3 1 0 9
  rw [w4] at a4
  have a5 := Moves_spec tr3 1
  rw [w5] at a5
  repeat' (first
    | (refine ⟨_, _, _, CallS.call (lend0 (lend (args' := [aTrace ⟨[], 0⟩, .v (.int .i64 0), .own (b + 0) 1]) (b + 0) 51 2 [aPut ⟨1, 0⟩] (PureE.toS a1) (by simp [subL, AVal.sub, fz1, aTrace, aPut]) (by simp)) rfl) htop (need_row rfl), ?_⟩; simp only [go_sem, Nat.reduceLT, Nat.reduceEqDiff, Nat.reduceAdd, Nat.reduceSub, Nat.reduceMul, Nat.reduceLeDiff, reduceIte, reduceCtorEq, Int.lt_irrefl, Nat.reduceMod, Nat.reduceBEq, eq_self, false_and, and_false])
    | (refine ⟨_, _, _, CallS.call (lend (args' := [aTrace tr1, .v (.int .i64 5), .own (b + 2) 2]) (b + 2) 51 2 [aPut ⟨2, 0⟩, aPut ⟨1, 1⟩] (PureE.toS a2) (by simp [subL, AVal.sub, fz1, aTrace, aPut, tr1, aFrame]) (by simp)) htop (need_row rfl), ?_⟩; simp only [go_sem, Nat.reduceLT, Nat.reduceEqDiff, Nat.reduceAdd, Nat.reduceSub, Nat.reduceMul, Nat.reduceLeDiff, reduceIte, reduceCtorEq, Int.lt_irrefl, Nat.reduceMod, Nat.reduceBEq, eq_self, false_and, and_false])
    | refine wpA_seq ?_
    | refine wpA_skip ?_
    | (refine wpA_exit ?_)
    | (refine hK _ _ ?_; clear hK K)
    | (refine hK _ _ rfl ?_; clear hK K)
    | (refine wpA_reg hT hE fun K hK => ?_; simp only [go_sem, Nat.reduceLT, Nat.reduceEqDiff, Nat.reduceAdd, Nat.reduceSub, Nat.reduceMul, Nat.reduceLeDiff, reduceIte, reduceCtorEq, Int.lt_irrefl, Nat.reduceMod, Nat.reduceBEq, eq_self, false_and, and_false])
    | (refine wpA_drw hT hE hmix (by kernel_rfl) fun K hK => ?_; simp only [go_sem, Nat.reduceLT, Nat.reduceEqDiff, Nat.reduceAdd, Nat.reduceSub, Nat.reduceMul, Nat.reduceLeDiff, reduceIte, reduceCtorEq, Int.lt_irrefl, Nat.reduceMod, Nat.reduceBEq, eq_self, false_and, and_false])
    | (refine gd_t (fun h => ?_) (fun h => ?_) <;> (try simp only [h, go_sem, Nat.reduceLT, Nat.reduceEqDiff, Nat.reduceAdd, Nat.reduceSub, Nat.reduceMul, Nat.reduceLeDiff, reduceIte, reduceCtorEq, Int.lt_irrefl, Nat.reduceMod, Nat.reduceBEq, eq_self, false_and, and_false]))
    | (refine gd_f (fun h => ?_) (fun h => ?_) <;> (try simp only [h, go_sem, Nat.reduceLT, Nat.reduceEqDiff, Nat.reduceAdd, Nat.reduceSub, Nat.reduceMul, Nat.reduceLeDiff, reduceIte, reduceCtorEq, Int.lt_irrefl, Nat.reduceMod, Nat.reduceBEq, eq_self, false_and, and_false]))
    | refine wpA_block ?_
    | (refine wpA_cond rfl (fun h => ?_) (fun h => ?_) <;> (try (cases h; done)))
    | (refine wpA_ret (fin_pure (.inl rfl) rfl (by simp only [go_sem, Nat.reduceLT, Nat.reduceEqDiff, Nat.reduceAdd, Nat.reduceSub, Nat.reduceMul, Nat.reduceLeDiff, reduceIte, reduceCtorEq, Int.lt_irrefl, Nat.reduceMod, Nat.reduceBEq, eq_self, false_and, and_false]; rfl) ?_ (hW _)); (try simp only [go_sem, Nat.reduceLT, Nat.reduceEqDiff, Nat.reduceAdd, Nat.reduceSub, Nat.reduceMul, Nat.reduceLeDiff, reduceIte, reduceCtorEq, Int.lt_irrefl, Nat.reduceMod, Nat.reduceBEq, eq_self, false_and, and_false]))
    | (refine wpA_ret (fin_pureM (.inl rfl) (by simp only [go_sem, Nat.reduceLT, Nat.reduceEqDiff, Nat.reduceAdd, Nat.reduceSub, Nat.reduceMul, Nat.reduceLeDiff, reduceIte, reduceCtorEq, Int.lt_irrefl, Nat.reduceMod, Nat.reduceBEq, eq_self, false_and, and_false]) (by simp only [go_sem, Nat.reduceLT, Nat.reduceEqDiff, Nat.reduceAdd, Nat.reduceSub, Nat.reduceMul, Nat.reduceLeDiff, reduceIte, reduceCtorEq, Int.lt_irrefl, Nat.reduceMod, Nat.reduceBEq, eq_self, false_and, and_false]; rfl) ?_ (hW _)); (try simp only [go_sem, Nat.reduceLT, Nat.reduceEqDiff, Nat.reduceAdd, Nat.reduceSub, Nat.reduceMul, Nat.reduceLeDiff, reduceIte, reduceCtorEq, Int.lt_irrefl, Nat.reduceMod, Nat.reduceBEq, eq_self, false_and, and_false]))
    | (refine ⟨_, [], [], PureE.call (a3) (by first | (simp; done) | (simp [hpF_add, hpF_lo]; done) | exact need_hp htop hn | exact need_hp2 htop hn), ?_⟩; (try simp only [go_sem, Nat.reduceLT, Nat.reduceEqDiff, Nat.reduceAdd, Nat.reduceSub, Nat.reduceMul, Nat.reduceLeDiff, reduceIte, reduceCtorEq, Int.lt_irrefl, Nat.reduceMod, Nat.reduceBEq, eq_self, false_and, and_false]))
    | (refine ⟨_, _, [], PureE.toS (a3), by first | (simp; done) | (simp [hpF_add, hpF_lo]; done) | exact need_hp htop hn | exact need_hp2 htop hn, by simp, ?_⟩; (try simp only [go_sem, Nat.reduceLT, Nat.reduceEqDiff, Nat.reduceAdd, Nat.reduceSub, Nat.reduceMul, Nat.reduceLeDiff, reduceIte, reduceCtorEq, Int.lt_irrefl, Nat.reduceMod, Nat.reduceBEq, eq_self, false_and, and_false]))
    | (refine ⟨_, [], [], PureE.call (a4) (by first | (simp; done) | (simp [hpF_add, hpF_lo]; done) | exact need_hp htop hn | exact need_hp2 htop hn), ?_⟩; (try simp only [go_sem, Nat.reduceLT, Nat.reduceEqDiff, Nat.reduceAdd, Nat.reduceSub, Nat.reduceMul, Nat.reduceLeDiff, reduceIte, reduceCtorEq, Int.lt_irrefl, Nat.reduceMod, Nat.reduceBEq, eq_self, false_and, and_false]))
    | (refine ⟨_, _, [], PureE.toS (a4), by first | (simp; done) | (simp [hpF_add, hpF_lo]; done) | exact need_hp htop hn | exact need_hp2 htop hn, by simp, ?_⟩; (try simp only [go_sem, Nat.reduceLT, Nat.reduceEqDiff, Nat.reduceAdd, Nat.reduceSub, Nat.reduceMul, Nat.reduceLeDiff, reduceIte, reduceCtorEq, Int.lt_irrefl, Nat.reduceMod, Nat.reduceBEq, eq_self, false_and, and_false]))
    | (refine ⟨_, [], [], PureE.call (a5) (by first | (simp; done) | (simp [hpF_add, hpF_lo]; done) | exact need_hp htop hn | exact need_hp2 htop hn), ?_⟩; (try simp only [go_sem, Nat.reduceLT, Nat.reduceEqDiff, Nat.reduceAdd, Nat.reduceSub, Nat.reduceMul, Nat.reduceLeDiff, reduceIte, reduceCtorEq, Int.lt_irrefl, Nat.reduceMod, Nat.reduceBEq, eq_self, false_and, and_false]))
    | (refine ⟨_, _, [], PureE.toS (a5), by first | (simp; done) | (simp [hpF_add, hpF_lo]; done) | exact need_hp htop hn | exact need_hp2 htop hn, by simp, ?_⟩; (try simp only [go_sem, Nat.reduceLT, Nat.reduceEqDiff, Nat.reduceAdd, Nat.reduceSub, Nat.reduceMul, Nat.reduceLeDiff, reduceIte, reduceCtorEq, Int.lt_irrefl, Nat.reduceMod, Nat.reduceBEq, eq_self, false_and, and_false]))
    | fail)
  exact absurd h (by decide)

/-! ### what is added is what the document says -/
theorem rightL_link {fin : Int} : ∀ {l : List Frame} {prev : Option Frame} {i : Nat} {g f : Frame}, rightL fin prev l = true → l[i]? = some g → l[i + 1]? = some f → g.time < f.time ∧ g.puts ≠ f.puts
  | x :: y :: r, prev, 0, g, f, h, hg, hf => by
    simp at hg hf; subst hg; subst hf
    simp [rightL, linkOK, linkBad] at h
    exact ⟨h.2.1.2.1, h.2.1.2.2⟩
  | x :: r, prev, i + 1, g, f, h, hg, hf => by
    simp [rightL] at h
    exact rightL_link h.2 (by simpa using hg) (by simpa using hf)
theorem right_link {t : Trace} (h : right t = true) {i : Nat} {g f : Frame} (hg : t.frames[i]? = some g) (hf : t.frames[i + 1]? = some f) : g.time < f.time ∧ g.puts ≠ f.puts := by
  simp only [right, Bool.and_eq_true] at h
  exact rightL_link h.2.2 hg hf

def addG (t : Trace) (now : Int) (puts : List Put) : Trace × Int := if (withF ⟨t.frames, now⟩ puts).frames.length > 4000 then (noTrace, 6) else (withF ⟨t.frames, now⟩ puts, 0)
theorem addG_of {t : Trace} {now : Int} {puts : List Put} {l : List Frame} (ew : withF ⟨t.frames, now⟩ puts = ⟨l, now⟩) (h : ¬ l.length > 4000) : addG t now puts = (⟨l, now⟩, 0) := by
  rw [addG, ew, if_neg h]
theorem addG_eq {t : Trace} (hr : right t = true) (now : Int) (puts : List Put) : refAddG t now puts = addG t now puts := by
  have hl := right_len hr
  rcases Nat.eq_zero_or_pos t.frames.length with hz | hz
  · have hnil : t.frames = [] := List.length_eq_zero_iff.1 hz
    have hla : lastF t.frames = none := by rw [hnil]; rfl
    have e : withF ⟨t.frames, now⟩ puts = ⟨t.frames ++ [⟨now, puts⟩], now⟩ := by simp [withF, putLast, cutLast, lastF, hnil]
    rw [addG_of e (by simp [hnil]), refAddG, hla]
  · obtain ⟨f, hf, _, htk⟩ := get_of_lt (l := t.frames) (i := t.frames.length - 1) (by omega)
    have hla : lastF t.frames = some f := hf
    rw [show t.frames.length - 1 + 1 = t.frames.length by omega, List.take_length] at htk
    have hll : (t.frames.take (t.frames.length - 1)).length = t.frames.length - 1 := by simp
    have hlk : ∀ g, lastF (t.frames.take (t.frames.length - 1)) = some g → g.puts ≠ f.puts := fun g hg => by
      rw [lastF, hll, List.getElem?_take] at hg
      by_cases hc : t.frames.length - 1 - 1 < t.frames.length - 1
      · rw [if_pos hc] at hg
        exact (right_link hr hg (by rw [show t.frames.length - 1 - 1 + 1 = t.frames.length - 1 by omega]; exact hf)).2
      · rw [if_neg hc] at hg; cases hg
    cases h2 : (f.time == now) with
    | true =>
      have ec : cutLast ⟨t.frames, now⟩ = t.frames.take (t.frames.length - 1) := by simp only [cutLast, hla, h2]; rfl
      have hlen1 : ¬ (t.frames.take (t.frames.length - 1) ++ [(⟨now, puts⟩ : Frame)]).length > 4000 := by rw [List.length_append, hll]; simp; omega
      have hlen2 : ¬ (t.frames.take (t.frames.length - 1)).length > 4000 := by omega
      cases h1 : decide (f.puts = puts) with
      | true =>
        have hfp : f.puts = puts := of_decide_eq_true h1
        have hff : f = ⟨now, puts⟩ := by
          have : f.time = now := by simpa using h2
          cases f; simp at this hfp; rw [this, hfp]
        have ew : withF ⟨t.frames, now⟩ puts = ⟨t.frames, now⟩ := by
          rw [withF, ec]
          congr 1
          unfold putLast
          cases hlb : lastF (t.frames.take (t.frames.length - 1)) with
          | none => simp only; rw [← hff]; exact htk.symm
          | some g =>
            have := hlk g hlb
            rw [hfp] at this
            simp only [this, decide_false, Bool.false_eq_true, if_false]
            rw [← hff]; exact htk.symm
        rw [addG_of ew (by omega), refAddG, hla]
        simp only [h1, if_true]
      | false =>
        cases hlb : lastF (t.frames.take (t.frames.length - 1)) with
        | none =>
          have ew : withF ⟨t.frames, now⟩ puts = ⟨t.frames.take (t.frames.length - 1) ++ [⟨now, puts⟩], now⟩ := by rw [withF, ec]; simp only [putLast, hlb]
          rw [addG_of ew hlen1, refAddG, hla]
          simp only [h1, h2, hlb]; rfl
        | some g =>
          cases h4 : decide (g.puts = puts) with
          | true =>
            have ew : withF ⟨t.frames, now⟩ puts = ⟨t.frames.take (t.frames.length - 1), now⟩ := by rw [withF, ec]; simp only [putLast, hlb, h4]; rfl
            rw [addG_of ew hlen2, refAddG, hla]
            simp only [h1, h2, hlb, h4]; rfl
          | false =>
            have ew : withF ⟨t.frames, now⟩ puts = ⟨t.frames.take (t.frames.length - 1) ++ [⟨now, puts⟩], now⟩ := by rw [withF, ec]; simp only [putLast, hlb, h4]; rfl
            rw [addG_of ew hlen1, refAddG, hla]
            simp only [h1, h2, hlb, h4]; rfl
    | false =>
      have ec : cutLast ⟨t.frames, now⟩ = t.frames := by simp only [cutLast, hla, h2]; rfl
      cases h1 : decide (f.puts = puts) with
      | true =>
        have ew : withF ⟨t.frames, now⟩ puts = ⟨t.frames, now⟩ := by rw [withF, ec]; simp only [putLast, hla, h1]; rfl
        rw [addG_of ew (by omega), refAddG, hla]
        simp only [h1, if_true]
      | false =>
        have ew : withF ⟨t.frames, now⟩ puts = ⟨t.frames ++ [⟨now, puts⟩], now⟩ := by rw [withF, ec]; simp only [putLast, hla, h1]; rfl
        by_cases h3 : t.frames.length = 4000
        · have h3' : (((t.frames.length : Nat) : Int) == 4000) = true := by rw [beq_iff_eq]; omega
          rw [addG, ew, if_pos (by simp; omega), refAddG, hla]
          simp only [h1, h2, h3']; rfl
        · have h3' : (((t.frames.length : Nat) : Int) == 4000) = false := by rw [beq_eq_false_iff_ne]; omega
          rw [addG_of ew (by simp; omega), refAddG, hla]
          simp only [h1, h2, h3']; rfl
theorem add_eq (t : Trace) (now : Int) (puts : List Put) : refAddF t now puts = addF t now puts := by
  unfold refAddF addF
  cases hr : right t with
  | false => rfl
  | true =>
    split
    · rfl
    · split
      · rfl
      · exact addG_eq hr now puts
end Go.Proofs.Ythlmfkeeneeaoaa
