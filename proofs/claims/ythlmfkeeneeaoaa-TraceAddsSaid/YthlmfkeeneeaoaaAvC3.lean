/- It is proved that TraceAdds answers true for every trace, time and list of puts (the given statement TraceAddsSaid); no condition is added. -/
import Derived.Test.YthlmfkeeneeaoaaAvW2
import Derived.Test.YthlmfkeeneeaoaaAvR0
set_option linter.all false
set_option linter.unnecessarySimpa false
set_option linter.unusedVariables false
set_option linter.unusedSimpArgs false
namespace Go.Proofs.Ythlmfkeeneeaoaa
open Go Go.Av

/-! ### the law TraceAdds -/
set_option maxHeartbeats 8000000 in
theorem TraceAdds_walk (t : Trace) (now : Int) (puts : List Put) : PureE Try.prog 3 [aTrace t, .v (.int .i64 now), .sl (puts.map aPut)] [] (.v (.bool true)) := by
  intro F b hn
  refine callE_of hT (fn := Try.f3) rfl rfl rfl (by simp [fnt]) (by simp) fun htop hW => ?_
  cases ho : overF t with
  | true =>
    repeat' (first
      | refine wpA_seq ?_
      | refine wpA_skip ?_
      | (refine wpA_exit ?_)
      | (refine hK _ _ ?_; clear hK K)
      | (refine hK _ _ rfl ?_; clear hK K)
      | (refine wpA_reg hT hE fun K hK => ?_; simp only [go_sem, Nat.reduceLT, Nat.reduceEqDiff, Nat.reduceAdd, Nat.reduceSub, Nat.reduceMul, Nat.reduceLeDiff, reduceIte, reduceCtorEq, Int.lt_irrefl, Nat.reduceMod, Nat.reduceBEq, eq_self, false_and, and_false, ho])
      | (refine wpA_drw hT hE hmix (by kernel_rfl) fun K hK => ?_; simp only [go_sem, Nat.reduceLT, Nat.reduceEqDiff, Nat.reduceAdd, Nat.reduceSub, Nat.reduceMul, Nat.reduceLeDiff, reduceIte, reduceCtorEq, Int.lt_irrefl, Nat.reduceMod, Nat.reduceBEq, eq_self, false_and, and_false, ho])
      | (refine gd_t (fun h => ?_) (fun h => ?_) <;> (try simp only [h, go_sem, Nat.reduceLT, Nat.reduceEqDiff, Nat.reduceAdd, Nat.reduceSub, Nat.reduceMul, Nat.reduceLeDiff, reduceIte, reduceCtorEq, Int.lt_irrefl, Nat.reduceMod, Nat.reduceBEq, eq_self, false_and, and_false, ho]))
      | (refine gd_f (fun h => ?_) (fun h => ?_) <;> (try simp only [h, go_sem, Nat.reduceLT, Nat.reduceEqDiff, Nat.reduceAdd, Nat.reduceSub, Nat.reduceMul, Nat.reduceLeDiff, reduceIte, reduceCtorEq, Int.lt_irrefl, Nat.reduceMod, Nat.reduceBEq, eq_self, false_and, and_false, ho]))
      | refine wpA_block ?_
      | (refine wpA_cond rfl (fun h => ?_) (fun h => ?_) <;> (try (cases h; done)))
      | (refine wpA_ret (fin_pure (.inl rfl) rfl (by simp only [go_sem, Nat.reduceLT, Nat.reduceEqDiff, Nat.reduceAdd, Nat.reduceSub, Nat.reduceMul, Nat.reduceLeDiff, reduceIte, reduceCtorEq, Int.lt_irrefl, Nat.reduceMod, Nat.reduceBEq, eq_self, false_and, and_false, ho]; rfl) ?_ (hW _)); (try simp only [go_sem, Nat.reduceLT, Nat.reduceEqDiff, Nat.reduceAdd, Nat.reduceSub, Nat.reduceMul, Nat.reduceLeDiff, reduceIte, reduceCtorEq, Int.lt_irrefl, Nat.reduceMod, Nat.reduceBEq, eq_self, false_and, and_false, ho]))
      | (refine wpA_ret (fin_pureM (.inl rfl) (by simp only [go_sem, Nat.reduceLT, Nat.reduceEqDiff, Nat.reduceAdd, Nat.reduceSub, Nat.reduceMul, Nat.reduceLeDiff, reduceIte, reduceCtorEq, Int.lt_irrefl, Nat.reduceMod, Nat.reduceBEq, eq_self, false_and, and_false]) (by simp only [go_sem, Nat.reduceLT, Nat.reduceEqDiff, Nat.reduceAdd, Nat.reduceSub, Nat.reduceMul, Nat.reduceLeDiff, reduceIte, reduceCtorEq, Int.lt_irrefl, Nat.reduceMod, Nat.reduceBEq, eq_self, false_and, and_false, ho]; rfl) ?_ (hW _)); (try simp only [go_sem, Nat.reduceLT, Nat.reduceEqDiff, Nat.reduceAdd, Nat.reduceSub, Nat.reduceMul, Nat.reduceLeDiff, reduceIte, reduceCtorEq, Int.lt_irrefl, Nat.reduceMod, Nat.reduceBEq, eq_self, false_and, and_false, ho]))
      | (refine ⟨_, [], [], PureE.call (wakes_spec) (by first | (simp; done) | (simp [hpF_add, hpF_lo]; done) | exact need_hp htop hn | exact need_hp2 htop hn), ?_⟩; (try simp only [go_sem, Nat.reduceLT, Nat.reduceEqDiff, Nat.reduceAdd, Nat.reduceSub, Nat.reduceMul, Nat.reduceLeDiff, reduceIte, reduceCtorEq, Int.lt_irrefl, Nat.reduceMod, Nat.reduceBEq, eq_self, false_and, and_false, ho]))
      | (refine ⟨_, _, [], PureE.toS (wakes_spec), by first | (simp; done) | (simp [hpF_add, hpF_lo]; done) | exact need_hp htop hn | exact need_hp2 htop hn, by simp, ?_⟩; (try simp only [go_sem, Nat.reduceLT, Nat.reduceEqDiff, Nat.reduceAdd, Nat.reduceSub, Nat.reduceMul, Nat.reduceLeDiff, reduceIte, reduceCtorEq, Int.lt_irrefl, Nat.reduceMod, Nat.reduceBEq, eq_self, false_and, and_false, ho]))
      | (refine ⟨_, [], [], PureE.call (over_spec t) (by first | (simp; done) | (simp [hpF_add, hpF_lo]; done) | exact need_hp htop hn | exact need_hp2 htop hn), ?_⟩; (try simp only [go_sem, Nat.reduceLT, Nat.reduceEqDiff, Nat.reduceAdd, Nat.reduceSub, Nat.reduceMul, Nat.reduceLeDiff, reduceIte, reduceCtorEq, Int.lt_irrefl, Nat.reduceMod, Nat.reduceBEq, eq_self, false_and, and_false, ho]))
      | (refine ⟨_, _, [], PureE.toS (over_spec t), by first | (simp; done) | (simp [hpF_add, hpF_lo]; done) | exact need_hp htop hn | exact need_hp2 htop hn, by simp, ?_⟩; (try simp only [go_sem, Nat.reduceLT, Nat.reduceEqDiff, Nat.reduceAdd, Nat.reduceSub, Nat.reduceMul, Nat.reduceLeDiff, reduceIte, reduceCtorEq, Int.lt_irrefl, Nat.reduceMod, Nat.reduceBEq, eq_self, false_and, and_false, ho]))
      | fail)
  | false =>
    by_cases hp : puts.length ≤ 30
    · have hp' : ¬ ((puts.length : Int) > 30) := by omega
      have hb3 : puts.length * 16 ≤ 140737488355328 := by omega
      have hb4 : puts.length ≤ 9223372036854775807 := by omega
      have hra := RefAdd_spec t now puts
      rw [add_eq] at hra
      have hsame := SameRef_spec (addF t now puts).1 (addF t now puts).1
      rw [decide_eq_true rfl] at hsame
      have hsame2 := SameRef_spec t t
      rw [decide_eq_true rfl] at hsame2
      have hbne : ((addF t now puts).2 != (addF t now puts).2) = false := by simp
      repeat' (first
        | (refine ⟨_, _, _, lend (args' := [aTrace t, .v (.int .i64 now), .own (b + 3) puts.length]) (b + 3) 51 2 (puts.map aPut) (PureE.toS (Add_spec t now puts)) (by simp [subL, AVal.sub, fz1, aTrace, subL_aFrame]) (by simp), need_row rfl, by simp, ?_⟩; simp only [go_sem, Nat.reduceLT, Nat.reduceEqDiff, Nat.reduceAdd, Nat.reduceSub, Nat.reduceMul, Nat.reduceLeDiff, reduceIte, reduceCtorEq, Int.lt_irrefl, Nat.reduceMod, Nat.reduceBEq, eq_self, false_and, and_false, ho, hp', hb3, hb4, hbne])
        | refine wpA_seq ?_
        | refine wpA_skip ?_
        | (refine wpA_exit ?_)
        | (refine hK _ _ ?_; clear hK K)
        | (refine hK _ _ rfl ?_; clear hK K)
        | (refine wpA_reg hT hE fun K hK => ?_; simp only [go_sem, Nat.reduceLT, Nat.reduceEqDiff, Nat.reduceAdd, Nat.reduceSub, Nat.reduceMul, Nat.reduceLeDiff, reduceIte, reduceCtorEq, Int.lt_irrefl, Nat.reduceMod, Nat.reduceBEq, eq_self, false_and, and_false, ho, hp', hb3, hb4, hbne])
        | (refine wpA_drw hT hE hmix (by kernel_rfl) fun K hK => ?_; simp only [go_sem, Nat.reduceLT, Nat.reduceEqDiff, Nat.reduceAdd, Nat.reduceSub, Nat.reduceMul, Nat.reduceLeDiff, reduceIte, reduceCtorEq, Int.lt_irrefl, Nat.reduceMod, Nat.reduceBEq, eq_self, false_and, and_false, ho, hp', hb3, hb4, hbne])
        | (refine gd_t (fun h => ?_) (fun h => ?_) <;> (try simp only [h, go_sem, Nat.reduceLT, Nat.reduceEqDiff, Nat.reduceAdd, Nat.reduceSub, Nat.reduceMul, Nat.reduceLeDiff, reduceIte, reduceCtorEq, Int.lt_irrefl, Nat.reduceMod, Nat.reduceBEq, eq_self, false_and, and_false, ho, hp', hb3, hb4, hbne]))
        | (refine gd_f (fun h => ?_) (fun h => ?_) <;> (try simp only [h, go_sem, Nat.reduceLT, Nat.reduceEqDiff, Nat.reduceAdd, Nat.reduceSub, Nat.reduceMul, Nat.reduceLeDiff, reduceIte, reduceCtorEq, Int.lt_irrefl, Nat.reduceMod, Nat.reduceBEq, eq_self, false_and, and_false, ho, hp', hb3, hb4, hbne]))
        | refine wpA_block ?_
        | (refine wpA_cond rfl (fun h => ?_) (fun h => ?_) <;> (try (cases h; done)))
        | (refine wpA_ret (fin_pure (.inl rfl) rfl (by simp only [go_sem, Nat.reduceLT, Nat.reduceEqDiff, Nat.reduceAdd, Nat.reduceSub, Nat.reduceMul, Nat.reduceLeDiff, reduceIte, reduceCtorEq, Int.lt_irrefl, Nat.reduceMod, Nat.reduceBEq, eq_self, false_and, and_false, ho, hp', hb3, hb4, hbne]; rfl) ?_ (hW _)); (try simp only [go_sem, Nat.reduceLT, Nat.reduceEqDiff, Nat.reduceAdd, Nat.reduceSub, Nat.reduceMul, Nat.reduceLeDiff, reduceIte, reduceCtorEq, Int.lt_irrefl, Nat.reduceMod, Nat.reduceBEq, eq_self, false_and, and_false, ho, hp', hb3, hb4, hbne]))
        | (refine wpA_ret (fin_pureM (.inl rfl) (by simp only [go_sem, Nat.reduceLT, Nat.reduceEqDiff, Nat.reduceAdd, Nat.reduceSub, Nat.reduceMul, Nat.reduceLeDiff, reduceIte, reduceCtorEq, Int.lt_irrefl, Nat.reduceMod, Nat.reduceBEq, eq_self, false_and, and_false]) (by simp only [go_sem, Nat.reduceLT, Nat.reduceEqDiff, Nat.reduceAdd, Nat.reduceSub, Nat.reduceMul, Nat.reduceLeDiff, reduceIte, reduceCtorEq, Int.lt_irrefl, Nat.reduceMod, Nat.reduceBEq, eq_self, false_and, and_false, ho, hp', hb3, hb4, hbne]; rfl) ?_ (hW _)); (try simp only [go_sem, Nat.reduceLT, Nat.reduceEqDiff, Nat.reduceAdd, Nat.reduceSub, Nat.reduceMul, Nat.reduceLeDiff, reduceIte, reduceCtorEq, Int.lt_irrefl, Nat.reduceMod, Nat.reduceBEq, eq_self, false_and, and_false, ho, hp', hb3, hb4, hbne]))
        | (refine ⟨_, [], [], PureE.call (wakes_spec) (by first | (simp; done) | (simp [hpF_add, hpF_lo]; done) | exact need_hp htop hn | exact need_hp2 htop hn), ?_⟩; (try simp only [go_sem, Nat.reduceLT, Nat.reduceEqDiff, Nat.reduceAdd, Nat.reduceSub, Nat.reduceMul, Nat.reduceLeDiff, reduceIte, reduceCtorEq, Int.lt_irrefl, Nat.reduceMod, Nat.reduceBEq, eq_self, false_and, and_false, ho, hp', hb3, hb4, hbne]))
        | (refine ⟨_, _, [], PureE.toS (wakes_spec), by first | (simp; done) | (simp [hpF_add, hpF_lo]; done) | exact need_hp htop hn | exact need_hp2 htop hn, by simp, ?_⟩; (try simp only [go_sem, Nat.reduceLT, Nat.reduceEqDiff, Nat.reduceAdd, Nat.reduceSub, Nat.reduceMul, Nat.reduceLeDiff, reduceIte, reduceCtorEq, Int.lt_irrefl, Nat.reduceMod, Nat.reduceBEq, eq_self, false_and, and_false, ho, hp', hb3, hb4, hbne]))
        | (refine ⟨_, [], [], PureE.call (over_spec t) (by first | (simp; done) | (simp [hpF_add, hpF_lo]; done) | exact need_hp htop hn | exact need_hp2 htop hn), ?_⟩; (try simp only [go_sem, Nat.reduceLT, Nat.reduceEqDiff, Nat.reduceAdd, Nat.reduceSub, Nat.reduceMul, Nat.reduceLeDiff, reduceIte, reduceCtorEq, Int.lt_irrefl, Nat.reduceMod, Nat.reduceBEq, eq_self, false_and, and_false, ho, hp', hb3, hb4, hbne]))
        | (refine ⟨_, _, [], PureE.toS (over_spec t), by first | (simp; done) | (simp [hpF_add, hpF_lo]; done) | exact need_hp htop hn | exact need_hp2 htop hn, by simp, ?_⟩; (try simp only [go_sem, Nat.reduceLT, Nat.reduceEqDiff, Nat.reduceAdd, Nat.reduceSub, Nat.reduceMul, Nat.reduceLeDiff, reduceIte, reduceCtorEq, Int.lt_irrefl, Nat.reduceMod, Nat.reduceBEq, eq_self, false_and, and_false, ho, hp', hb3, hb4, hbne]))
        | (refine ⟨_, [], [], PureE.call (copied_spec t ho) (by first | (simp; done) | (simp [hpF_add, hpF_lo]; done) | exact need_hp htop hn | exact need_hp2 htop hn), ?_⟩; (try simp only [go_sem, Nat.reduceLT, Nat.reduceEqDiff, Nat.reduceAdd, Nat.reduceSub, Nat.reduceMul, Nat.reduceLeDiff, reduceIte, reduceCtorEq, Int.lt_irrefl, Nat.reduceMod, Nat.reduceBEq, eq_self, false_and, and_false, ho, hp', hb3, hb4, hbne]))
        | (refine ⟨_, _, [], PureE.toS (copied_spec t ho), by first | (simp; done) | (simp [hpF_add, hpF_lo]; done) | exact need_hp htop hn | exact need_hp2 htop hn, by simp, ?_⟩; (try simp only [go_sem, Nat.reduceLT, Nat.reduceEqDiff, Nat.reduceAdd, Nat.reduceSub, Nat.reduceMul, Nat.reduceLeDiff, reduceIte, reduceCtorEq, Int.lt_irrefl, Nat.reduceMod, Nat.reduceBEq, eq_self, false_and, and_false, ho, hp', hb3, hb4, hbne]))
        | (refine ⟨_, [], [], PureE.call (Pass_spec t now) (by first | (simp; done) | (simp [hpF_add, hpF_lo]; done) | exact need_hp htop hn | exact need_hp2 htop hn), ?_⟩; (try simp only [go_sem, Nat.reduceLT, Nat.reduceEqDiff, Nat.reduceAdd, Nat.reduceSub, Nat.reduceMul, Nat.reduceLeDiff, reduceIte, reduceCtorEq, Int.lt_irrefl, Nat.reduceMod, Nat.reduceBEq, eq_self, false_and, and_false, ho, hp', hb3, hb4, hbne]))
        | (refine ⟨_, _, [], PureE.toS (Pass_spec t now), by first | (simp; done) | (simp [hpF_add, hpF_lo]; done) | exact need_hp htop hn | exact need_hp2 htop hn, by simp, ?_⟩; (try simp only [go_sem, Nat.reduceLT, Nat.reduceEqDiff, Nat.reduceAdd, Nat.reduceSub, Nat.reduceMul, Nat.reduceLeDiff, reduceIte, reduceCtorEq, Int.lt_irrefl, Nat.reduceMod, Nat.reduceBEq, eq_self, false_and, and_false, ho, hp', hb3, hb4, hbne]))
        | (refine ⟨_, [], [], PureE.call (hra) (by first | (simp; done) | (simp [hpF_add, hpF_lo]; done) | exact need_hp htop hn | exact need_hp2 htop hn), ?_⟩; (try simp only [go_sem, Nat.reduceLT, Nat.reduceEqDiff, Nat.reduceAdd, Nat.reduceSub, Nat.reduceMul, Nat.reduceLeDiff, reduceIte, reduceCtorEq, Int.lt_irrefl, Nat.reduceMod, Nat.reduceBEq, eq_self, false_and, and_false, ho, hp', hb3, hb4, hbne]))
        | (refine ⟨_, _, [], PureE.toS (hra), by first | (simp; done) | (simp [hpF_add, hpF_lo]; done) | exact need_hp htop hn | exact need_hp2 htop hn, by simp, ?_⟩; (try simp only [go_sem, Nat.reduceLT, Nat.reduceEqDiff, Nat.reduceAdd, Nat.reduceSub, Nat.reduceMul, Nat.reduceLeDiff, reduceIte, reduceCtorEq, Int.lt_irrefl, Nat.reduceMod, Nat.reduceBEq, eq_self, false_and, and_false, ho, hp', hb3, hb4, hbne]))
        | (refine ⟨_, [], [], PureE.call (hsame) (by first | (simp; done) | (simp [hpF_add, hpF_lo]; done) | exact need_hp htop hn | exact need_hp2 htop hn), ?_⟩; (try simp only [go_sem, Nat.reduceLT, Nat.reduceEqDiff, Nat.reduceAdd, Nat.reduceSub, Nat.reduceMul, Nat.reduceLeDiff, reduceIte, reduceCtorEq, Int.lt_irrefl, Nat.reduceMod, Nat.reduceBEq, eq_self, false_and, and_false, ho, hp', hb3, hb4, hbne]))
        | (refine ⟨_, _, [], PureE.toS (hsame), by first | (simp; done) | (simp [hpF_add, hpF_lo]; done) | exact need_hp htop hn | exact need_hp2 htop hn, by simp, ?_⟩; (try simp only [go_sem, Nat.reduceLT, Nat.reduceEqDiff, Nat.reduceAdd, Nat.reduceSub, Nat.reduceMul, Nat.reduceLeDiff, reduceIte, reduceCtorEq, Int.lt_irrefl, Nat.reduceMod, Nat.reduceBEq, eq_self, false_and, and_false, ho, hp', hb3, hb4, hbne]))
        | (refine ⟨_, [], [], PureE.call (hsame2) (by first | (simp; done) | (simp [hpF_add, hpF_lo]; done) | exact need_hp htop hn | exact need_hp2 htop hn), ?_⟩; (try simp only [go_sem, Nat.reduceLT, Nat.reduceEqDiff, Nat.reduceAdd, Nat.reduceSub, Nat.reduceMul, Nat.reduceLeDiff, reduceIte, reduceCtorEq, Int.lt_irrefl, Nat.reduceMod, Nat.reduceBEq, eq_self, false_and, and_false, ho, hp', hb3, hb4, hbne]))
        | (refine ⟨_, _, [], PureE.toS (hsame2), by first | (simp; done) | (simp [hpF_add, hpF_lo]; done) | exact need_hp htop hn | exact need_hp2 htop hn, by simp, ?_⟩; (try simp only [go_sem, Nat.reduceLT, Nat.reduceEqDiff, Nat.reduceAdd, Nat.reduceSub, Nat.reduceMul, Nat.reduceLeDiff, reduceIte, reduceCtorEq, Int.lt_irrefl, Nat.reduceMod, Nat.reduceBEq, eq_self, false_and, and_false, ho, hp', hb3, hb4, hbne]))
        | (refine ⟨_, [], [], PureE.call (SameRef_spec (passF t now).1 ⟨t.frames, now⟩) (by first | (simp; done) | (simp [hpF_add, hpF_lo]; done) | exact need_hp htop hn | exact need_hp2 htop hn), ?_⟩; (try simp only [go_sem, Nat.reduceLT, Nat.reduceEqDiff, Nat.reduceAdd, Nat.reduceSub, Nat.reduceMul, Nat.reduceLeDiff, reduceIte, reduceCtorEq, Int.lt_irrefl, Nat.reduceMod, Nat.reduceBEq, eq_self, false_and, and_false, ho, hp', hb3, hb4, hbne]))
        | (refine ⟨_, _, [], PureE.toS (SameRef_spec (passF t now).1 ⟨t.frames, now⟩), by first | (simp; done) | (simp [hpF_add, hpF_lo]; done) | exact need_hp htop hn | exact need_hp2 htop hn, by simp, ?_⟩; (try simp only [go_sem, Nat.reduceLT, Nat.reduceEqDiff, Nat.reduceAdd, Nat.reduceSub, Nat.reduceMul, Nat.reduceLeDiff, reduceIte, reduceCtorEq, Int.lt_irrefl, Nat.reduceMod, Nat.reduceBEq, eq_self, false_and, and_false, ho, hp', hb3, hb4, hbne]))
        | (refine ⟨_, [], [], PureE.call (Right_spec t) (by first | (simp; done) | (simp [hpF_add, hpF_lo]; done) | exact need_hp htop hn | exact need_hp2 htop hn), ?_⟩; (try simp only [go_sem, Nat.reduceLT, Nat.reduceEqDiff, Nat.reduceAdd, Nat.reduceSub, Nat.reduceMul, Nat.reduceLeDiff, reduceIte, reduceCtorEq, Int.lt_irrefl, Nat.reduceMod, Nat.reduceBEq, eq_self, false_and, and_false, ho, hp', hb3, hb4, hbne]))
        | (refine ⟨_, _, [], PureE.toS (Right_spec t), by first | (simp; done) | (simp [hpF_add, hpF_lo]; done) | exact need_hp htop hn | exact need_hp2 htop hn, by simp, ?_⟩; (try simp only [go_sem, Nat.reduceLT, Nat.reduceEqDiff, Nat.reduceAdd, Nat.reduceSub, Nat.reduceMul, Nat.reduceLeDiff, reduceIte, reduceCtorEq, Int.lt_irrefl, Nat.reduceMod, Nat.reduceBEq, eq_self, false_and, and_false, ho, hp', hb3, hb4, hbne]))
        | (refine ⟨_, [], [], PureE.call (Check_spec t) (by first | (simp; done) | (simp [hpF_add, hpF_lo]; done) | exact need_hp htop hn | exact need_hp2 htop hn), ?_⟩; (try simp only [go_sem, Nat.reduceLT, Nat.reduceEqDiff, Nat.reduceAdd, Nat.reduceSub, Nat.reduceMul, Nat.reduceLeDiff, reduceIte, reduceCtorEq, Int.lt_irrefl, Nat.reduceMod, Nat.reduceBEq, eq_self, false_and, and_false, ho, hp', hb3, hb4, hbne]))
        | (refine ⟨_, _, [], PureE.toS (Check_spec t), by first | (simp; done) | (simp [hpF_add, hpF_lo]; done) | exact need_hp htop hn | exact need_hp2 htop hn, by simp, ?_⟩; (try simp only [go_sem, Nat.reduceLT, Nat.reduceEqDiff, Nat.reduceAdd, Nat.reduceSub, Nat.reduceMul, Nat.reduceLeDiff, reduceIte, reduceCtorEq, Int.lt_irrefl, Nat.reduceMod, Nat.reduceBEq, eq_self, false_and, and_false, ho, hp', hb3, hb4, hbne]))
        | (refine ⟨_, [], [], PureE.call (Time_spec now) (by first | (simp; done) | (simp [hpF_add, hpF_lo]; done) | exact need_hp htop hn | exact need_hp2 htop hn), ?_⟩; (try simp only [go_sem, Nat.reduceLT, Nat.reduceEqDiff, Nat.reduceAdd, Nat.reduceSub, Nat.reduceMul, Nat.reduceLeDiff, reduceIte, reduceCtorEq, Int.lt_irrefl, Nat.reduceMod, Nat.reduceBEq, eq_self, false_and, and_false, ho, hp', hb3, hb4, hbne]))
        | (refine ⟨_, _, [], PureE.toS (Time_spec now), by first | (simp; done) | (simp [hpF_add, hpF_lo]; done) | exact need_hp htop hn | exact need_hp2 htop hn, by simp, ?_⟩; (try simp only [go_sem, Nat.reduceLT, Nat.reduceEqDiff, Nat.reduceAdd, Nat.reduceSub, Nat.reduceMul, Nat.reduceLeDiff, reduceIte, reduceCtorEq, Int.lt_irrefl, Nat.reduceMod, Nat.reduceBEq, eq_self, false_and, and_false, ho, hp', hb3, hb4, hbne]))
        | fail)
      all_goals (clear hra hsame hsame2 hb3 hb4 hp')
      all_goals first
        | (simp_all [passF, errT, noTrace]; done)
        | (cases hr : right t <;> simp_all [passF, errT, noTrace]; done)
        | skip
      all_goals
        have h1 : (!right t) = false := by assumption
        have h2 : (!timeOK now) = false := by assumption
        have h3 : decide (now < t.fin) = false := by assumption
        have hr : right t = true := by simpa using h1
        have hpf : passF t now = (⟨t.frames, now⟩, 0) := by unfold passF; rw [hr, h2, h3]; rfl
      · rw [hpf]; simp
      · rw [hpf] at h; simp at h
    · have hp' : ((puts.length : Int) > 30) := by omega
      repeat' (first
        | refine wpA_seq ?_
        | refine wpA_skip ?_
        | (refine wpA_exit ?_)
        | (refine hK _ _ ?_; clear hK K)
        | (refine hK _ _ rfl ?_; clear hK K)
        | (refine wpA_reg hT hE fun K hK => ?_; simp only [go_sem, Nat.reduceLT, Nat.reduceEqDiff, Nat.reduceAdd, Nat.reduceSub, Nat.reduceMul, Nat.reduceLeDiff, reduceIte, reduceCtorEq, Int.lt_irrefl, Nat.reduceMod, Nat.reduceBEq, eq_self, false_and, and_false, ho, hp'])
        | (refine wpA_drw hT hE hmix (by kernel_rfl) fun K hK => ?_; simp only [go_sem, Nat.reduceLT, Nat.reduceEqDiff, Nat.reduceAdd, Nat.reduceSub, Nat.reduceMul, Nat.reduceLeDiff, reduceIte, reduceCtorEq, Int.lt_irrefl, Nat.reduceMod, Nat.reduceBEq, eq_self, false_and, and_false, ho, hp'])
        | (refine gd_t (fun h => ?_) (fun h => ?_) <;> (try simp only [h, go_sem, Nat.reduceLT, Nat.reduceEqDiff, Nat.reduceAdd, Nat.reduceSub, Nat.reduceMul, Nat.reduceLeDiff, reduceIte, reduceCtorEq, Int.lt_irrefl, Nat.reduceMod, Nat.reduceBEq, eq_self, false_and, and_false, ho, hp']))
        | (refine gd_f (fun h => ?_) (fun h => ?_) <;> (try simp only [h, go_sem, Nat.reduceLT, Nat.reduceEqDiff, Nat.reduceAdd, Nat.reduceSub, Nat.reduceMul, Nat.reduceLeDiff, reduceIte, reduceCtorEq, Int.lt_irrefl, Nat.reduceMod, Nat.reduceBEq, eq_self, false_and, and_false, ho, hp']))
        | refine wpA_block ?_
        | (refine wpA_cond rfl (fun h => ?_) (fun h => ?_) <;> (try (cases h; done)))
        | (refine wpA_ret (fin_pure (.inl rfl) rfl (by simp only [go_sem, Nat.reduceLT, Nat.reduceEqDiff, Nat.reduceAdd, Nat.reduceSub, Nat.reduceMul, Nat.reduceLeDiff, reduceIte, reduceCtorEq, Int.lt_irrefl, Nat.reduceMod, Nat.reduceBEq, eq_self, false_and, and_false, ho, hp']; rfl) ?_ (hW _)); (try simp only [go_sem, Nat.reduceLT, Nat.reduceEqDiff, Nat.reduceAdd, Nat.reduceSub, Nat.reduceMul, Nat.reduceLeDiff, reduceIte, reduceCtorEq, Int.lt_irrefl, Nat.reduceMod, Nat.reduceBEq, eq_self, false_and, and_false, ho, hp']))
        | (refine wpA_ret (fin_pureM (.inl rfl) (by simp only [go_sem, Nat.reduceLT, Nat.reduceEqDiff, Nat.reduceAdd, Nat.reduceSub, Nat.reduceMul, Nat.reduceLeDiff, reduceIte, reduceCtorEq, Int.lt_irrefl, Nat.reduceMod, Nat.reduceBEq, eq_self, false_and, and_false]) (by simp only [go_sem, Nat.reduceLT, Nat.reduceEqDiff, Nat.reduceAdd, Nat.reduceSub, Nat.reduceMul, Nat.reduceLeDiff, reduceIte, reduceCtorEq, Int.lt_irrefl, Nat.reduceMod, Nat.reduceBEq, eq_self, false_and, and_false, ho, hp']; rfl) ?_ (hW _)); (try simp only [go_sem, Nat.reduceLT, Nat.reduceEqDiff, Nat.reduceAdd, Nat.reduceSub, Nat.reduceMul, Nat.reduceLeDiff, reduceIte, reduceCtorEq, Int.lt_irrefl, Nat.reduceMod, Nat.reduceBEq, eq_self, false_and, and_false, ho, hp']))
        | (refine ⟨_, [], [], PureE.call (wakes_spec) (by first | (simp; done) | (simp [hpF_add, hpF_lo]; done) | exact need_hp htop hn | exact need_hp2 htop hn), ?_⟩; (try simp only [go_sem, Nat.reduceLT, Nat.reduceEqDiff, Nat.reduceAdd, Nat.reduceSub, Nat.reduceMul, Nat.reduceLeDiff, reduceIte, reduceCtorEq, Int.lt_irrefl, Nat.reduceMod, Nat.reduceBEq, eq_self, false_and, and_false, ho, hp']))
        | (refine ⟨_, _, [], PureE.toS (wakes_spec), by first | (simp; done) | (simp [hpF_add, hpF_lo]; done) | exact need_hp htop hn | exact need_hp2 htop hn, by simp, ?_⟩; (try simp only [go_sem, Nat.reduceLT, Nat.reduceEqDiff, Nat.reduceAdd, Nat.reduceSub, Nat.reduceMul, Nat.reduceLeDiff, reduceIte, reduceCtorEq, Int.lt_irrefl, Nat.reduceMod, Nat.reduceBEq, eq_self, false_and, and_false, ho, hp']))
        | (refine ⟨_, [], [], PureE.call (over_spec t) (by first | (simp; done) | (simp [hpF_add, hpF_lo]; done) | exact need_hp htop hn | exact need_hp2 htop hn), ?_⟩; (try simp only [go_sem, Nat.reduceLT, Nat.reduceEqDiff, Nat.reduceAdd, Nat.reduceSub, Nat.reduceMul, Nat.reduceLeDiff, reduceIte, reduceCtorEq, Int.lt_irrefl, Nat.reduceMod, Nat.reduceBEq, eq_self, false_and, and_false, ho, hp']))
        | (refine ⟨_, _, [], PureE.toS (over_spec t), by first | (simp; done) | (simp [hpF_add, hpF_lo]; done) | exact need_hp htop hn | exact need_hp2 htop hn, by simp, ?_⟩; (try simp only [go_sem, Nat.reduceLT, Nat.reduceEqDiff, Nat.reduceAdd, Nat.reduceSub, Nat.reduceMul, Nat.reduceLeDiff, reduceIte, reduceCtorEq, Int.lt_irrefl, Nat.reduceMod, Nat.reduceBEq, eq_self, false_and, and_false, ho, hp']))
        | fail)
end Go.Proofs.Ythlmfkeeneeaoaa

namespace Go.Proofs.Ythlmfkeeneeaoaa
open Go Go.Av Go.ChangeShapes Go.WideShapes Go.ChangeAt Go.RowKit

namespace traceAdds
set_option maxRecDepth 100000 in
theorem lifted (os : Os) (started : os.Started) (H : Type) (enc : TypeId × Value → H) :
    ReturnsInHanded {} Try.checked os 3 .any (Rows.traceAddsSpec.pre6 enc Try.prog Try.f3 Rows.traceAddsRow.domain false) (Rows.traceAddsSpec.post enc Try.prog Try.f3 false true false false) := by
  refine returnsInHanded_of_change (C := Try.checked) own started (by kernel_rfl) Try.func3
    (ChangeSpec.witness6 (enc := enc) (C := Try.checked) false ⟨#[], #[.agg #[.slice none 0 0, .int .i64 0], .int .i64 0, .slice none 0 0], []⟩ 8 (by kernel_rfl) (by kernel_rfl) (by kernel_rfl) (by kernel_rfl)) ?_
  intro W base args ds gs before hval0 hW hcnd _
  have hval : ∀ (j : Nat) t v, Try.f3.params[j]? = some t → args[j]? = some v → Value.okWide Try.prog W .any base t v := hval0
  have hW' := hW
  obtain ⟨p, q, hA0, hV, rfl, hfz, hnd⟩ := hW
  have hA : DataW.TrodAll enc Try.prog W 0 (fun _ => true) true Try.f3.params.toList args.toList ds p := hA0
  rw [Try.params3] at hA hval
  obtain ⟨v0, vs0, d0, ds0, p0, q0, hargs, rfl, rfl, ⟨n0, h0⟩, r0⟩ := trodAll_cons hA
  obtain ⟨v1, vs1, d1, ds1, p1, q1, rfl, rfl, rfl, ⟨n1, h1⟩, r1⟩ := trodAll_cons r0
  obtain ⟨v2, vs2, d2, ds2, p2, q2, rfl, rfl, rfl, ⟨n2, h2⟩, r2⟩ := trodAll_cons r1
  obtain ⟨rfl, rfl, rfl⟩ := trodAll_nil r2
  obtain rfl : args = #[v0, v1, v2] := by cases args; simp_all
  obtain ⟨t, _, rt⟩ := rdTrace W H enc _ _ _ _ _ h0
  obtain ⟨now, _, rn⟩ := rdI64 W H enc _ _ _ _ _ h1
  obtain ⟨puts, _, rp⟩ := rdPuts W H enc _ _ _ _ _ h2
  have e0 : Rel (topCx W) (aTrace t) v0 := rel_agg (xs := (aTrace t).cells) Try.underlying24 (hval 0 24 v0 rfl rfl) rt
  obtain ⟨x1, rfl⟩ := okWide_int Try.underlying2 (hval 1 2 v1 rfl rfl)
  obtain ⟨a2, l2, c2, rfl⟩ := okWide_slice Try.underlying25 (hval 2 25 v2 rfl rfl)
  have e1 := rel_one rfl rn
  have e2 := rel_one rfl rp
  have hc := (TraceAdds_walk t now puts (fun _ => none) 0 (by simp)).2.2 (topCx W) [v0, _, _] (topHeap W) (fun _ _ => rfl) ⟨_, _, rfl, e0, _, _, rfl, e1, _, _, rfl, e2, rfl⟩
  refine hc.mono ?_
  rintro e W' ⟨c', y, rfl, rfl, hH, hr, hle⟩
  obtain ⟨rfl, _⟩ := hr
  refine ⟨_, rfl, post_law hlaid hmaps hslices (by rw [Try.params3]; decide +kernel) hW' hle Try.underlying4 (by kernel_rfl) rfl (fun hg => by rw [hg]; rfl)⟩

theorem over : Rows.traceAddsRow.holds Try.pinned (OpenSpec.ofChange Rows.traceAddsSpec) :=
  OpenClaim.holds_of_wide 3 Try.f3 rfl rfl rfl rfl rfl rfl rfl ⟨rfl, rfl, rfl, rfl, rfl⟩ rfl rfl rfl rfl rfl (by kernel_rfl) Try.func3 (by kernel_rfl)
    (of_decide_eq_true (by kernel_rfl)) (by unfold Func.isWrapper; first | (rw [if_pos (by decide +kernel)]; kernel_rfl) | (rw [if_neg (by decide +kernel)]; exact ⟨rfl, rfl⟩))
    (fun os started H enc _ => lifted os started H enc)
theorem proved : Rows.TraceAddsSaid := over
end traceAdds
end Go.Proofs.Ythlmfkeeneeaoaa
