/- It is proved that TraceSpans answers true for every trace, number and pair of times (the given statement TraceSpansSaid); no condition is added. -/
import Derived.Test.YthlmfkeeneeaoaaAvW5
import Derived.Test.YthlmfkeeneeaoaaAvC6
set_option linter.all false
set_option linter.unnecessarySimpa false
set_option linter.unusedVariables false
set_option linter.unusedSimpArgs false
namespace Go.Proofs.Ythlmfkeeneeaoaa
open Go Go.Av

/-! ### the law TraceSpans -/
set_option maxRecDepth 20000 in
set_option maxHeartbeats 16000000 in
theorem TraceSpans_walk (t : Trace) (v a z : Int) : PureE Try.prog 8 [aTrace t, .v (.int .i64 v), .agg [.v (.int .i64 a), .v (.int .i64 z)]] [] (.v (.bool true)) := by
  intro F b hn
  refine callE_of hT (fn := Try.f8) rfl rfl rfl (by simp [fnt]) (by simp) fun htop hW => ?_
  cases ho : overF t with
  | true =>
    repeat' (first
      | refine wpA_seq ?_
      | refine wpA_skip ?_
      | (refine wpA_exit ?_)
      | (refine hK _ _ ?_; clear hK K)
      | (refine hK _ _ rfl ?_; clear hK K)
      | (refine wpA_reg hT hE fun K hK => ?_; simp only [go_sem, Nat.reduceLT, Nat.reduceEqDiff, Nat.reduceAdd, Nat.reduceSub, Nat.reduceMul, Nat.reduceLeDiff, reduceIte, reduceCtorEq, Int.lt_irrefl, Nat.reduceMod, Nat.reduceBEq, eq_self, false_and, and_false, ho])
      | (refine wpA_drw hT hE hmix (by kernel_rfl) fun K hK => ?_; simp only [go_sem, Nat.reduceLT, Nat.reduceEqDiff, Nat.reduceAdd, Nat.reduceSub, Nat.reduceMul, Nat.reduceLeDiff, reduceIte, reduceCtorEq, Int.lt_irrefl, Nat.reduceMod, Nat.reduceBEq, eq_self, false_and, and_false, ho])
      | (refine gd_t (fun h => ?_) (fun h => ?_) <;> (try simp only [h, go_sem, Nat.reduceLT, Nat.reduceEqDiff, Nat.reduceAdd, Nat.reduceSub, Nat.reduceMul, Nat.reduceLeDiff, reduceIte, reduceCtorEq, Int.lt_irrefl, Nat.reduceMod, Nat.reduceBEq, eq_self, false_and, and_false, ho]))
      | (refine gd_f (fun h => ?_) (fun h => ?_) <;> (try simp only [h, go_sem, Nat.reduceLT, Nat.reduceEqDiff, Nat.reduceAdd, Nat.reduceSub, Nat.reduceMul, Nat.reduceLeDiff, reduceIte, reduceCtorEq, Int.lt_irrefl, Nat.reduceMod, Nat.reduceBEq, eq_self, false_and, and_false, ho]))
      | refine wpA_block ?_
      | (refine wpA_cond rfl (fun h => ?_) (fun h => ?_) <;> (try (cases h; done)))
      | (refine wpA_ret (fin_pure (.inl rfl) rfl (by simp only [go_sem, Nat.reduceLT, Nat.reduceEqDiff, Nat.reduceAdd, Nat.reduceSub, Nat.reduceMul, Nat.reduceLeDiff, reduceIte, reduceCtorEq, Int.lt_irrefl, Nat.reduceMod, Nat.reduceBEq, eq_self, false_and, and_false, ho]; rfl) ?_ (hW _)); (try simp only [go_sem, Nat.reduceLT, Nat.reduceEqDiff, Nat.reduceAdd, Nat.reduceSub, Nat.reduceMul, Nat.reduceLeDiff, reduceIte, reduceCtorEq, Int.lt_irrefl, Nat.reduceMod, Nat.reduceBEq, eq_self, false_and, and_false, ho]))
      | (refine wpA_ret (fin_pureM (.inl rfl) (by simp only [go_sem, Nat.reduceLT, Nat.reduceEqDiff, Nat.reduceAdd, Nat.reduceSub, Nat.reduceMul, Nat.reduceLeDiff, reduceIte, reduceCtorEq, Int.lt_irrefl, Nat.reduceMod, Nat.reduceBEq, eq_self, false_and, and_false]) (by simp only [go_sem, Nat.reduceLT, Nat.reduceEqDiff, Nat.reduceAdd, Nat.reduceSub, Nat.reduceMul, Nat.reduceLeDiff, reduceIte, reduceCtorEq, Int.lt_irrefl, Nat.reduceMod, Nat.reduceBEq, eq_self, false_and, and_false, ho]; rfl) ?_ (hW _)); (try simp only [go_sem, Nat.reduceLT, Nat.reduceEqDiff, Nat.reduceAdd, Nat.reduceSub, Nat.reduceMul, Nat.reduceLeDiff, reduceIte, reduceCtorEq, Int.lt_irrefl, Nat.reduceMod, Nat.reduceBEq, eq_self, false_and, and_false, ho]))
      | (refine ⟨_, [], [], PureE.call (wakes_spec) (by first | (simp; done) | (simp [hpF_add, hpF_lo]; done) | exact need_hp htop hn | exact need_hp2 htop hn), ?_⟩; (try simp only [go_sem, Nat.reduceLT, Nat.reduceEqDiff, Nat.reduceAdd, Nat.reduceSub, Nat.reduceMul, Nat.reduceLeDiff, reduceIte, reduceCtorEq, Int.lt_irrefl, Nat.reduceMod, Nat.reduceBEq, eq_self, false_and, and_false, ho]))
      | (refine ⟨_, _, [], PureE.toS (wakes_spec), by first | (simp; done) | (simp [hpF_add, hpF_lo]; done) | exact need_hp htop hn | exact need_hp2 htop hn, by simp, ?_⟩; (try simp only [go_sem, Nat.reduceLT, Nat.reduceEqDiff, Nat.reduceAdd, Nat.reduceSub, Nat.reduceMul, Nat.reduceLeDiff, reduceIte, reduceCtorEq, Int.lt_irrefl, Nat.reduceMod, Nat.reduceBEq, eq_self, false_and, and_false, ho]))
      | (refine ⟨_, [], [], PureE.call (over_spec t) (by first | (simp; done) | (simp [hpF_add, hpF_lo]; done) | exact need_hp htop hn | exact need_hp2 htop hn), ?_⟩; (try simp only [go_sem, Nat.reduceLT, Nat.reduceEqDiff, Nat.reduceAdd, Nat.reduceSub, Nat.reduceMul, Nat.reduceLeDiff, reduceIte, reduceCtorEq, Int.lt_irrefl, Nat.reduceMod, Nat.reduceBEq, eq_self, false_and, and_false, ho]))
      | (refine ⟨_, _, [], PureE.toS (over_spec t), by first | (simp; done) | (simp [hpF_add, hpF_lo]; done) | exact need_hp htop hn | exact need_hp2 htop hn, by simp, ?_⟩; (try simp only [go_sem, Nat.reduceLT, Nat.reduceEqDiff, Nat.reduceAdd, Nat.reduceSub, Nat.reduceMul, Nat.reduceLeDiff, reduceIte, reduceCtorEq, Int.lt_irrefl, Nat.reduceMod, Nat.reduceBEq, eq_self, false_and, and_false, ho]))
      | fail)
  | false =>
    have hsp := Spans_spec t v
    have hmv := Moves_spec t v
    have hcu := Cut_spec t a z
    cases hr : right t with
    | false =>
      have h1 : spansF t v = [] := by unfold spansF; rw [if_neg (by rw [hr]; simp)]
      have h2 : cutF t a z = (noTrace, 330) := by unfold cutF; rw [if_pos hr]
      rw [h1] at hsp hmv
      rw [h2] at hcu
      rw [show movesTo [] ([] : List Span).length = 0 from rfl] at hmv
      repeat' (first
        | refine wpA_seq ?_
        | refine wpA_skip ?_
        | (refine wpA_exit ?_)
        | (refine hK _ _ ?_; clear hK K)
        | (refine hK _ _ rfl ?_; clear hK K)
        | (refine wpA_reg hT hE fun K hK => ?_; simp only [go_sem, Nat.reduceLT, Nat.reduceEqDiff, Nat.reduceAdd, Nat.reduceSub, Nat.reduceMul, Nat.reduceLeDiff, reduceIte, reduceCtorEq, Int.lt_irrefl, Nat.reduceMod, Nat.reduceBEq, eq_self, false_and, and_false, ho, hr, ix2_0, ix2_1, noTrace])
        | (refine wpA_drw hT hE hmix (by kernel_rfl) fun K hK => ?_; simp only [go_sem, Nat.reduceLT, Nat.reduceEqDiff, Nat.reduceAdd, Nat.reduceSub, Nat.reduceMul, Nat.reduceLeDiff, reduceIte, reduceCtorEq, Int.lt_irrefl, Nat.reduceMod, Nat.reduceBEq, eq_self, false_and, and_false, ho, hr, ix2_0, ix2_1, noTrace])
        | (refine gd_t (fun h => ?_) (fun h => ?_) <;> (try simp only [h, go_sem, Nat.reduceLT, Nat.reduceEqDiff, Nat.reduceAdd, Nat.reduceSub, Nat.reduceMul, Nat.reduceLeDiff, reduceIte, reduceCtorEq, Int.lt_irrefl, Nat.reduceMod, Nat.reduceBEq, eq_self, false_and, and_false, ho, hr, ix2_0, ix2_1, noTrace]))
        | (refine gd_f (fun h => ?_) (fun h => ?_) <;> (try simp only [h, go_sem, Nat.reduceLT, Nat.reduceEqDiff, Nat.reduceAdd, Nat.reduceSub, Nat.reduceMul, Nat.reduceLeDiff, reduceIte, reduceCtorEq, Int.lt_irrefl, Nat.reduceMod, Nat.reduceBEq, eq_self, false_and, and_false, ho, hr, ix2_0, ix2_1, noTrace]))
        | refine wpA_block ?_
        | (refine wpA_cond rfl (fun h => ?_) (fun h => ?_) <;> (try (cases h; done)))
        | (refine wpA_ret (fin_pure (.inl rfl) rfl (by simp only [go_sem, Nat.reduceLT, Nat.reduceEqDiff, Nat.reduceAdd, Nat.reduceSub, Nat.reduceMul, Nat.reduceLeDiff, reduceIte, reduceCtorEq, Int.lt_irrefl, Nat.reduceMod, Nat.reduceBEq, eq_self, false_and, and_false, ho, hr, ix2_0, ix2_1, noTrace]; rfl) ?_ (hW _)); (try simp only [go_sem, Nat.reduceLT, Nat.reduceEqDiff, Nat.reduceAdd, Nat.reduceSub, Nat.reduceMul, Nat.reduceLeDiff, reduceIte, reduceCtorEq, Int.lt_irrefl, Nat.reduceMod, Nat.reduceBEq, eq_self, false_and, and_false, ho, hr, ix2_0, ix2_1, noTrace]))
        | (refine wpA_ret (fin_pureM (.inl rfl) (by simp only [go_sem, Nat.reduceLT, Nat.reduceEqDiff, Nat.reduceAdd, Nat.reduceSub, Nat.reduceMul, Nat.reduceLeDiff, reduceIte, reduceCtorEq, Int.lt_irrefl, Nat.reduceMod, Nat.reduceBEq, eq_self, false_and, and_false]) (by simp only [go_sem, Nat.reduceLT, Nat.reduceEqDiff, Nat.reduceAdd, Nat.reduceSub, Nat.reduceMul, Nat.reduceLeDiff, reduceIte, reduceCtorEq, Int.lt_irrefl, Nat.reduceMod, Nat.reduceBEq, eq_self, false_and, and_false, ho, hr, ix2_0, ix2_1, noTrace]; rfl) ?_ (hW _)); (try simp only [go_sem, Nat.reduceLT, Nat.reduceEqDiff, Nat.reduceAdd, Nat.reduceSub, Nat.reduceMul, Nat.reduceLeDiff, reduceIte, reduceCtorEq, Int.lt_irrefl, Nat.reduceMod, Nat.reduceBEq, eq_self, false_and, and_false, ho, hr, ix2_0, ix2_1, noTrace]))
        | (refine ⟨_, [], [], PureE.call (wakes_spec) (by first | (simp; done) | (simp [hpF_add, hpF_lo]; done) | exact need_hp htop hn | exact need_hp2 htop hn), ?_⟩; (try simp only [go_sem, Nat.reduceLT, Nat.reduceEqDiff, Nat.reduceAdd, Nat.reduceSub, Nat.reduceMul, Nat.reduceLeDiff, reduceIte, reduceCtorEq, Int.lt_irrefl, Nat.reduceMod, Nat.reduceBEq, eq_self, false_and, and_false, ho, hr, ix2_0, ix2_1, noTrace]))
        | (refine ⟨_, _, [], PureE.toS (wakes_spec), by first | (simp; done) | (simp [hpF_add, hpF_lo]; done) | exact need_hp htop hn | exact need_hp2 htop hn, by simp, ?_⟩; (try simp only [go_sem, Nat.reduceLT, Nat.reduceEqDiff, Nat.reduceAdd, Nat.reduceSub, Nat.reduceMul, Nat.reduceLeDiff, reduceIte, reduceCtorEq, Int.lt_irrefl, Nat.reduceMod, Nat.reduceBEq, eq_self, false_and, and_false, ho, hr, ix2_0, ix2_1, noTrace]))
        | (refine ⟨_, [], [], PureE.call (over_spec t) (by first | (simp; done) | (simp [hpF_add, hpF_lo]; done) | exact need_hp htop hn | exact need_hp2 htop hn), ?_⟩; (try simp only [go_sem, Nat.reduceLT, Nat.reduceEqDiff, Nat.reduceAdd, Nat.reduceSub, Nat.reduceMul, Nat.reduceLeDiff, reduceIte, reduceCtorEq, Int.lt_irrefl, Nat.reduceMod, Nat.reduceBEq, eq_self, false_and, and_false, ho, hr, ix2_0, ix2_1, noTrace]))
        | (refine ⟨_, _, [], PureE.toS (over_spec t), by first | (simp; done) | (simp [hpF_add, hpF_lo]; done) | exact need_hp htop hn | exact need_hp2 htop hn, by simp, ?_⟩; (try simp only [go_sem, Nat.reduceLT, Nat.reduceEqDiff, Nat.reduceAdd, Nat.reduceSub, Nat.reduceMul, Nat.reduceLeDiff, reduceIte, reduceCtorEq, Int.lt_irrefl, Nat.reduceMod, Nat.reduceBEq, eq_self, false_and, and_false, ho, hr, ix2_0, ix2_1, noTrace]))
        | (refine ⟨_, [], [], PureE.call (copied_spec t ho) (by first | (simp; done) | (simp [hpF_add, hpF_lo]; done) | exact need_hp htop hn | exact need_hp2 htop hn), ?_⟩; (try simp only [go_sem, Nat.reduceLT, Nat.reduceEqDiff, Nat.reduceAdd, Nat.reduceSub, Nat.reduceMul, Nat.reduceLeDiff, reduceIte, reduceCtorEq, Int.lt_irrefl, Nat.reduceMod, Nat.reduceBEq, eq_self, false_and, and_false, ho, hr, ix2_0, ix2_1, noTrace]))
        | (refine ⟨_, _, [], PureE.toS (copied_spec t ho), by first | (simp; done) | (simp [hpF_add, hpF_lo]; done) | exact need_hp htop hn | exact need_hp2 htop hn, by simp, ?_⟩; (try simp only [go_sem, Nat.reduceLT, Nat.reduceEqDiff, Nat.reduceAdd, Nat.reduceSub, Nat.reduceMul, Nat.reduceLeDiff, reduceIte, reduceCtorEq, Int.lt_irrefl, Nat.reduceMod, Nat.reduceBEq, eq_self, false_and, and_false, ho, hr, ix2_0, ix2_1, noTrace]))
        | (refine ⟨_, [], [], PureE.call (hsp) (by first | (simp; done) | (simp [hpF_add, hpF_lo]; done) | exact need_hp htop hn | exact need_hp2 htop hn), ?_⟩; (try simp only [go_sem, Nat.reduceLT, Nat.reduceEqDiff, Nat.reduceAdd, Nat.reduceSub, Nat.reduceMul, Nat.reduceLeDiff, reduceIte, reduceCtorEq, Int.lt_irrefl, Nat.reduceMod, Nat.reduceBEq, eq_self, false_and, and_false, ho, hr, ix2_0, ix2_1, noTrace]))
        | (refine ⟨_, _, [], PureE.toS (hsp), by first | (simp; done) | (simp [hpF_add, hpF_lo]; done) | exact need_hp htop hn | exact need_hp2 htop hn, by simp, ?_⟩; (try simp only [go_sem, Nat.reduceLT, Nat.reduceEqDiff, Nat.reduceAdd, Nat.reduceSub, Nat.reduceMul, Nat.reduceLeDiff, reduceIte, reduceCtorEq, Int.lt_irrefl, Nat.reduceMod, Nat.reduceBEq, eq_self, false_and, and_false, ho, hr, ix2_0, ix2_1, noTrace]))
        | (refine ⟨_, [], [], PureE.call (hmv) (by first | (simp; done) | (simp [hpF_add, hpF_lo]; done) | exact need_hp htop hn | exact need_hp2 htop hn), ?_⟩; (try simp only [go_sem, Nat.reduceLT, Nat.reduceEqDiff, Nat.reduceAdd, Nat.reduceSub, Nat.reduceMul, Nat.reduceLeDiff, reduceIte, reduceCtorEq, Int.lt_irrefl, Nat.reduceMod, Nat.reduceBEq, eq_self, false_and, and_false, ho, hr, ix2_0, ix2_1, noTrace]))
        | (refine ⟨_, _, [], PureE.toS (hmv), by first | (simp; done) | (simp [hpF_add, hpF_lo]; done) | exact need_hp htop hn | exact need_hp2 htop hn, by simp, ?_⟩; (try simp only [go_sem, Nat.reduceLT, Nat.reduceEqDiff, Nat.reduceAdd, Nat.reduceSub, Nat.reduceMul, Nat.reduceLeDiff, reduceIte, reduceCtorEq, Int.lt_irrefl, Nat.reduceMod, Nat.reduceBEq, eq_self, false_and, and_false, ho, hr, ix2_0, ix2_1, noTrace]))
        | (refine ⟨_, [], [], PureE.call (hcu) (by first | (simp; done) | (simp [hpF_add, hpF_lo]; done) | exact need_hp htop hn | exact need_hp2 htop hn), ?_⟩; (try simp only [go_sem, Nat.reduceLT, Nat.reduceEqDiff, Nat.reduceAdd, Nat.reduceSub, Nat.reduceMul, Nat.reduceLeDiff, reduceIte, reduceCtorEq, Int.lt_irrefl, Nat.reduceMod, Nat.reduceBEq, eq_self, false_and, and_false, ho, hr, ix2_0, ix2_1, noTrace]))
        | (refine ⟨_, _, [], PureE.toS (hcu), by first | (simp; done) | (simp [hpF_add, hpF_lo]; done) | exact need_hp htop hn | exact need_hp2 htop hn, by simp, ?_⟩; (try simp only [go_sem, Nat.reduceLT, Nat.reduceEqDiff, Nat.reduceAdd, Nat.reduceSub, Nat.reduceMul, Nat.reduceLeDiff, reduceIte, reduceCtorEq, Int.lt_irrefl, Nat.reduceMod, Nat.reduceBEq, eq_self, false_and, and_false, ho, hr, ix2_0, ix2_1, noTrace]))
        | (refine ⟨_, [], [], PureE.call (Right_spec t) (by first | (simp; done) | (simp [hpF_add, hpF_lo]; done) | exact need_hp htop hn | exact need_hp2 htop hn), ?_⟩; (try simp only [go_sem, Nat.reduceLT, Nat.reduceEqDiff, Nat.reduceAdd, Nat.reduceSub, Nat.reduceMul, Nat.reduceLeDiff, reduceIte, reduceCtorEq, Int.lt_irrefl, Nat.reduceMod, Nat.reduceBEq, eq_self, false_and, and_false, ho, hr, ix2_0, ix2_1, noTrace]))
        | (refine ⟨_, _, [], PureE.toS (Right_spec t), by first | (simp; done) | (simp [hpF_add, hpF_lo]; done) | exact need_hp htop hn | exact need_hp2 htop hn, by simp, ?_⟩; (try simp only [go_sem, Nat.reduceLT, Nat.reduceEqDiff, Nat.reduceAdd, Nat.reduceSub, Nat.reduceMul, Nat.reduceLeDiff, reduceIte, reduceCtorEq, Int.lt_irrefl, Nat.reduceMod, Nat.reduceBEq, eq_self, false_and, and_false, ho, hr, ix2_0, ix2_1, noTrace]))
        | fail)
      all_goals first | (simp_all; done) | skip
    | true =>
      have hl := right_len hr
      have hrs := RefSpans_spec t v hr
      have hrs0 : rspansTo t v t.frames.length = spansF t v := by
        rw [rspans_eq hr v _ (Nat.le_refl _)]; unfold spansF; rw [if_pos hr]
      rw [hrs0] at hrs
      have hlen : (spansF t v).length ≤ 32000 := by
        unfold spansF
        rw [if_pos hr]
        have := spansTo_len hr v t.frames.length
        omega
      generalize spansF t v = l at *
      have hll : ((l.length : Int) != l.length) = false := by simp
      have hsame := Same_spec t t
      rw [decide_eq_true rfl] at hsame
      obtain ⟨X, e, hX⟩ : ∃ X e, cutF t a z = (X, e) := ⟨_, _, rfl⟩
      rw [hX] at hcu
      repeat' (first
        | refine wpA_seq ?_
        | refine wpA_skip ?_
        | (refine wpA_exit ?_)
        | (refine hK _ _ ?_; clear hK K)
        | (refine hK _ _ rfl ?_; clear hK K)
        | (refine wpA_reg hT hE fun K hK => ?_; simp only [go_sem, Nat.reduceLT, Nat.reduceEqDiff, Nat.reduceAdd, Nat.reduceSub, Nat.reduceMul, Nat.reduceLeDiff, reduceIte, reduceCtorEq, Int.lt_irrefl, Nat.reduceMod, Nat.reduceBEq, eq_self, false_and, and_false, ho, hr, ix2_0, ix2_1, hll])
        | (refine wpA_drw hT hE hmix (by kernel_rfl) fun K hK => ?_; simp only [go_sem, Nat.reduceLT, Nat.reduceEqDiff, Nat.reduceAdd, Nat.reduceSub, Nat.reduceMul, Nat.reduceLeDiff, reduceIte, reduceCtorEq, Int.lt_irrefl, Nat.reduceMod, Nat.reduceBEq, eq_self, false_and, and_false, ho, hr, ix2_0, ix2_1, hll])
        | (refine gd_t (fun h => ?_) (fun h => ?_) <;> (try simp only [h, go_sem, Nat.reduceLT, Nat.reduceEqDiff, Nat.reduceAdd, Nat.reduceSub, Nat.reduceMul, Nat.reduceLeDiff, reduceIte, reduceCtorEq, Int.lt_irrefl, Nat.reduceMod, Nat.reduceBEq, eq_self, false_and, and_false, ho, hr, ix2_0, ix2_1, hll]))
        | (refine gd_f (fun h => ?_) (fun h => ?_) <;> (try simp only [h, go_sem, Nat.reduceLT, Nat.reduceEqDiff, Nat.reduceAdd, Nat.reduceSub, Nat.reduceMul, Nat.reduceLeDiff, reduceIte, reduceCtorEq, Int.lt_irrefl, Nat.reduceMod, Nat.reduceBEq, eq_self, false_and, and_false, ho, hr, ix2_0, ix2_1, hll]))
        | refine wpA_block ?_
        | (refine wpA_cond rfl (fun h => ?_) (fun h => ?_) <;> (try (cases h; done)))
        | (refine wpA_ret (fin_pure (.inl rfl) rfl (by simp only [go_sem, Nat.reduceLT, Nat.reduceEqDiff, Nat.reduceAdd, Nat.reduceSub, Nat.reduceMul, Nat.reduceLeDiff, reduceIte, reduceCtorEq, Int.lt_irrefl, Nat.reduceMod, Nat.reduceBEq, eq_self, false_and, and_false, ho, hr, ix2_0, ix2_1, hll]; rfl) ?_ (hW _)); (try simp only [go_sem, Nat.reduceLT, Nat.reduceEqDiff, Nat.reduceAdd, Nat.reduceSub, Nat.reduceMul, Nat.reduceLeDiff, reduceIte, reduceCtorEq, Int.lt_irrefl, Nat.reduceMod, Nat.reduceBEq, eq_self, false_and, and_false, ho, hr, ix2_0, ix2_1, hll]))
        | (refine wpA_ret (fin_pureM (.inl rfl) (by simp only [go_sem, Nat.reduceLT, Nat.reduceEqDiff, Nat.reduceAdd, Nat.reduceSub, Nat.reduceMul, Nat.reduceLeDiff, reduceIte, reduceCtorEq, Int.lt_irrefl, Nat.reduceMod, Nat.reduceBEq, eq_self, false_and, and_false]) (by simp only [go_sem, Nat.reduceLT, Nat.reduceEqDiff, Nat.reduceAdd, Nat.reduceSub, Nat.reduceMul, Nat.reduceLeDiff, reduceIte, reduceCtorEq, Int.lt_irrefl, Nat.reduceMod, Nat.reduceBEq, eq_self, false_and, and_false, ho, hr, ix2_0, ix2_1, hll]; rfl) ?_ (hW _)); (try simp only [go_sem, Nat.reduceLT, Nat.reduceEqDiff, Nat.reduceAdd, Nat.reduceSub, Nat.reduceMul, Nat.reduceLeDiff, reduceIte, reduceCtorEq, Int.lt_irrefl, Nat.reduceMod, Nat.reduceBEq, eq_self, false_and, and_false, ho, hr, ix2_0, ix2_1, hll]))
        | (refine ⟨_, [], [], PureE.call (wakes_spec) (by first | (simp; done) | (simp [hpF_add, hpF_lo]; done) | exact need_hp htop hn | exact need_hp2 htop hn), ?_⟩; (try simp only [go_sem, Nat.reduceLT, Nat.reduceEqDiff, Nat.reduceAdd, Nat.reduceSub, Nat.reduceMul, Nat.reduceLeDiff, reduceIte, reduceCtorEq, Int.lt_irrefl, Nat.reduceMod, Nat.reduceBEq, eq_self, false_and, and_false, ho, hr, ix2_0, ix2_1, hll]))
        | (refine ⟨_, _, [], PureE.toS (wakes_spec), by first | (simp; done) | (simp [hpF_add, hpF_lo]; done) | exact need_hp htop hn | exact need_hp2 htop hn, by simp, ?_⟩; (try simp only [go_sem, Nat.reduceLT, Nat.reduceEqDiff, Nat.reduceAdd, Nat.reduceSub, Nat.reduceMul, Nat.reduceLeDiff, reduceIte, reduceCtorEq, Int.lt_irrefl, Nat.reduceMod, Nat.reduceBEq, eq_self, false_and, and_false, ho, hr, ix2_0, ix2_1, hll]))
        | (refine ⟨_, [], [], PureE.call (over_spec t) (by first | (simp; done) | (simp [hpF_add, hpF_lo]; done) | exact need_hp htop hn | exact need_hp2 htop hn), ?_⟩; (try simp only [go_sem, Nat.reduceLT, Nat.reduceEqDiff, Nat.reduceAdd, Nat.reduceSub, Nat.reduceMul, Nat.reduceLeDiff, reduceIte, reduceCtorEq, Int.lt_irrefl, Nat.reduceMod, Nat.reduceBEq, eq_self, false_and, and_false, ho, hr, ix2_0, ix2_1, hll]))
        | (refine ⟨_, _, [], PureE.toS (over_spec t), by first | (simp; done) | (simp [hpF_add, hpF_lo]; done) | exact need_hp htop hn | exact need_hp2 htop hn, by simp, ?_⟩; (try simp only [go_sem, Nat.reduceLT, Nat.reduceEqDiff, Nat.reduceAdd, Nat.reduceSub, Nat.reduceMul, Nat.reduceLeDiff, reduceIte, reduceCtorEq, Int.lt_irrefl, Nat.reduceMod, Nat.reduceBEq, eq_self, false_and, and_false, ho, hr, ix2_0, ix2_1, hll]))
        | (refine ⟨_, [], [], PureE.call (copied_spec t ho) (by first | (simp; done) | (simp [hpF_add, hpF_lo]; done) | exact need_hp htop hn | exact need_hp2 htop hn), ?_⟩; (try simp only [go_sem, Nat.reduceLT, Nat.reduceEqDiff, Nat.reduceAdd, Nat.reduceSub, Nat.reduceMul, Nat.reduceLeDiff, reduceIte, reduceCtorEq, Int.lt_irrefl, Nat.reduceMod, Nat.reduceBEq, eq_self, false_and, and_false, ho, hr, ix2_0, ix2_1, hll]))
        | (refine ⟨_, _, [], PureE.toS (copied_spec t ho), by first | (simp; done) | (simp [hpF_add, hpF_lo]; done) | exact need_hp htop hn | exact need_hp2 htop hn, by simp, ?_⟩; (try simp only [go_sem, Nat.reduceLT, Nat.reduceEqDiff, Nat.reduceAdd, Nat.reduceSub, Nat.reduceMul, Nat.reduceLeDiff, reduceIte, reduceCtorEq, Int.lt_irrefl, Nat.reduceMod, Nat.reduceBEq, eq_self, false_and, and_false, ho, hr, ix2_0, ix2_1, hll]))
        | (refine ⟨_, [], [], PureE.call (hsp) (by first | (simp; done) | (simp [hpF_add, hpF_lo]; done) | exact need_hp htop hn | exact need_hp2 htop hn), ?_⟩; (try simp only [go_sem, Nat.reduceLT, Nat.reduceEqDiff, Nat.reduceAdd, Nat.reduceSub, Nat.reduceMul, Nat.reduceLeDiff, reduceIte, reduceCtorEq, Int.lt_irrefl, Nat.reduceMod, Nat.reduceBEq, eq_self, false_and, and_false, ho, hr, ix2_0, ix2_1, hll]))
        | (refine ⟨_, _, [], PureE.toS (hsp), by first | (simp; done) | (simp [hpF_add, hpF_lo]; done) | exact need_hp htop hn | exact need_hp2 htop hn, by simp, ?_⟩; (try simp only [go_sem, Nat.reduceLT, Nat.reduceEqDiff, Nat.reduceAdd, Nat.reduceSub, Nat.reduceMul, Nat.reduceLeDiff, reduceIte, reduceCtorEq, Int.lt_irrefl, Nat.reduceMod, Nat.reduceBEq, eq_self, false_and, and_false, ho, hr, ix2_0, ix2_1, hll]))
        | (refine ⟨_, [], [], PureE.call (hmv) (by first | (simp; done) | (simp [hpF_add, hpF_lo]; done) | exact need_hp htop hn | exact need_hp2 htop hn), ?_⟩; (try simp only [go_sem, Nat.reduceLT, Nat.reduceEqDiff, Nat.reduceAdd, Nat.reduceSub, Nat.reduceMul, Nat.reduceLeDiff, reduceIte, reduceCtorEq, Int.lt_irrefl, Nat.reduceMod, Nat.reduceBEq, eq_self, false_and, and_false, ho, hr, ix2_0, ix2_1, hll]))
        | (refine ⟨_, _, [], PureE.toS (hmv), by first | (simp; done) | (simp [hpF_add, hpF_lo]; done) | exact need_hp htop hn | exact need_hp2 htop hn, by simp, ?_⟩; (try simp only [go_sem, Nat.reduceLT, Nat.reduceEqDiff, Nat.reduceAdd, Nat.reduceSub, Nat.reduceMul, Nat.reduceLeDiff, reduceIte, reduceCtorEq, Int.lt_irrefl, Nat.reduceMod, Nat.reduceBEq, eq_self, false_and, and_false, ho, hr, ix2_0, ix2_1, hll]))
        | (refine ⟨_, [], [], PureE.call (hcu) (by first | (simp; done) | (simp [hpF_add, hpF_lo]; done) | exact need_hp htop hn | exact need_hp2 htop hn), ?_⟩; (try simp only [go_sem, Nat.reduceLT, Nat.reduceEqDiff, Nat.reduceAdd, Nat.reduceSub, Nat.reduceMul, Nat.reduceLeDiff, reduceIte, reduceCtorEq, Int.lt_irrefl, Nat.reduceMod, Nat.reduceBEq, eq_self, false_and, and_false, ho, hr, ix2_0, ix2_1, hll]))
        | (refine ⟨_, _, [], PureE.toS (hcu), by first | (simp; done) | (simp [hpF_add, hpF_lo]; done) | exact need_hp htop hn | exact need_hp2 htop hn, by simp, ?_⟩; (try simp only [go_sem, Nat.reduceLT, Nat.reduceEqDiff, Nat.reduceAdd, Nat.reduceSub, Nat.reduceMul, Nat.reduceLeDiff, reduceIte, reduceCtorEq, Int.lt_irrefl, Nat.reduceMod, Nat.reduceBEq, eq_self, false_and, and_false, ho, hr, ix2_0, ix2_1, hll]))
        | (refine ⟨_, [], [], PureE.call (Right_spec t) (by first | (simp; done) | (simp [hpF_add, hpF_lo]; done) | exact need_hp htop hn | exact need_hp2 htop hn), ?_⟩; (try simp only [go_sem, Nat.reduceLT, Nat.reduceEqDiff, Nat.reduceAdd, Nat.reduceSub, Nat.reduceMul, Nat.reduceLeDiff, reduceIte, reduceCtorEq, Int.lt_irrefl, Nat.reduceMod, Nat.reduceBEq, eq_self, false_and, and_false, ho, hr, ix2_0, ix2_1, hll]))
        | (refine ⟨_, _, [], PureE.toS (Right_spec t), by first | (simp; done) | (simp [hpF_add, hpF_lo]; done) | exact need_hp htop hn | exact need_hp2 htop hn, by simp, ?_⟩; (try simp only [go_sem, Nat.reduceLT, Nat.reduceEqDiff, Nat.reduceAdd, Nat.reduceSub, Nat.reduceMul, Nat.reduceLeDiff, reduceIte, reduceCtorEq, Int.lt_irrefl, Nat.reduceMod, Nat.reduceBEq, eq_self, false_and, and_false, ho, hr, ix2_0, ix2_1, hll]))
        | (refine ⟨_, [], [], PureE.call (hrs) (by first | (simp; done) | (simp [hpF_add, hpF_lo]; done) | exact need_hp htop hn | exact need_hp2 htop hn), ?_⟩; (try simp only [go_sem, Nat.reduceLT, Nat.reduceEqDiff, Nat.reduceAdd, Nat.reduceSub, Nat.reduceMul, Nat.reduceLeDiff, reduceIte, reduceCtorEq, Int.lt_irrefl, Nat.reduceMod, Nat.reduceBEq, eq_self, false_and, and_false, ho, hr, ix2_0, ix2_1, hll]))
        | (refine ⟨_, _, [], PureE.toS (hrs), by first | (simp; done) | (simp [hpF_add, hpF_lo]; done) | exact need_hp htop hn | exact need_hp2 htop hn, by simp, ?_⟩; (try simp only [go_sem, Nat.reduceLT, Nat.reduceEqDiff, Nat.reduceAdd, Nat.reduceSub, Nat.reduceMul, Nat.reduceLeDiff, reduceIte, reduceCtorEq, Int.lt_irrefl, Nat.reduceMod, Nat.reduceBEq, eq_self, false_and, and_false, ho, hr, ix2_0, ix2_1, hll]))
        | (refine ⟨_, [], [], PureE.call (hsame) (by first | (simp; done) | (simp [hpF_add, hpF_lo]; done) | exact need_hp htop hn | exact need_hp2 htop hn), ?_⟩; (try simp only [go_sem, Nat.reduceLT, Nat.reduceEqDiff, Nat.reduceAdd, Nat.reduceSub, Nat.reduceMul, Nat.reduceLeDiff, reduceIte, reduceCtorEq, Int.lt_irrefl, Nat.reduceMod, Nat.reduceBEq, eq_self, false_and, and_false, ho, hr, ix2_0, ix2_1, hll]))
        | (refine ⟨_, _, [], PureE.toS (hsame), by first | (simp; done) | (simp [hpF_add, hpF_lo]; done) | exact need_hp htop hn | exact need_hp2 htop hn, by simp, ?_⟩; (try simp only [go_sem, Nat.reduceLT, Nat.reduceEqDiff, Nat.reduceAdd, Nat.reduceSub, Nat.reduceMul, Nat.reduceLeDiff, reduceIte, reduceCtorEq, Int.lt_irrefl, Nat.reduceMod, Nat.reduceBEq, eq_self, false_and, and_false, ho, hr, ix2_0, ix2_1, hll]))
        | fail)
      refine wpA_kp [3, 5, 8, 9, 10, 11, 12, 13, 71, 72] [0, 1, 3] (by simp) (by simp) rfl fun K hK => ?_
      simp only [go_sem, Nat.reduceLT, Nat.reduceEqDiff, Nat.reduceAdd, Nat.reduceSub, Nat.reduceMul, Nat.reduceLeDiff, reduceIte, reduceCtorEq, Int.lt_irrefl, Nat.reduceMod, Nat.reduceBEq, eq_self, false_and, and_false, hW _]
      refine hK _ ?_; clear hK K
      clear hsp hmv hcu hrs hsame
      refine wpA_for l.length (fun i => { tm := [(3, .ptr (b + 0) 0), (5, .ptr (b + 1) 0), (8, .sl (l.map aSpan)), (9, .v (.int .i64 (movesTo l l.length))), (10, .ptr (b + 2) 0), (11, .v (.int .i64 e)), (12, .sl (l.map aSpan)), (13, .v (.int .i64 (movesTo l i))), (71, .v (.int .i64 l.length)), (72, .v (.int .i64 i))], F := F, L := [.blk 24 [.sl (t.frames.map aFrame), .v (.int .i64 t.fin)], .blk 54 [.v (.int .i64 a), .v (.int .i64 z)], .blk 24 [.sl (X.frames.map aFrame), .v (.int .i64 X.fin)]], ds := [] }) (fun i => True) (by simp [movesTo]) trivial ?_ ?_
      · intro i hi _
        obtain ⟨s, hs, _, _⟩ := get_of_lt hi
        have hi' : ((i : Int) < l.length) := by omega
        have hw := wrap1 hi (by omega)
        have hbd := movesTo_bd l i
        have hwm : IntKind.i64.wrap (movesTo l i + 1) = movesTo l i + 1 := by rw [i64_id (by omega) (by omega)]
        by_cases h0 : i = 0
        · have hin : ¬ (i : Int) > 0 := by omega
          have hst : movesTo l (i + 1) = movesTo l i := by subst h0; rfl
          repeat' (first
            | refine wpA_seq ?_
            | refine wpA_skip ?_
            | (refine wpA_exit ?_)
            | (refine hK _ _ ?_; clear hK K)
            | (refine hK _ _ rfl ?_; clear hK K)
            | (refine wpA_reg hT hE fun K hK => ?_; simp only [go_sem, Nat.reduceLT, Nat.reduceEqDiff, Nat.reduceAdd, Nat.reduceSub, Nat.reduceMul, Nat.reduceLeDiff, reduceIte, reduceCtorEq, Int.lt_irrefl, Nat.reduceMod, Nat.reduceBEq, eq_self, false_and, and_false, hs, hin, Int.natCast_nonneg, hi'])
            | (refine wpA_drw hT hE hmix (by kernel_rfl) fun K hK => ?_; simp only [go_sem, Nat.reduceLT, Nat.reduceEqDiff, Nat.reduceAdd, Nat.reduceSub, Nat.reduceMul, Nat.reduceLeDiff, reduceIte, reduceCtorEq, Int.lt_irrefl, Nat.reduceMod, Nat.reduceBEq, eq_self, false_and, and_false, hs, hin, Int.natCast_nonneg, hi'])
            | (refine gd_t (fun h => ?_) (fun h => ?_) <;> (try simp only [h, go_sem, Nat.reduceLT, Nat.reduceEqDiff, Nat.reduceAdd, Nat.reduceSub, Nat.reduceMul, Nat.reduceLeDiff, reduceIte, reduceCtorEq, Int.lt_irrefl, Nat.reduceMod, Nat.reduceBEq, eq_self, false_and, and_false, hs, hin, Int.natCast_nonneg, hi']))
            | (refine gd_f (fun h => ?_) (fun h => ?_) <;> (try simp only [h, go_sem, Nat.reduceLT, Nat.reduceEqDiff, Nat.reduceAdd, Nat.reduceSub, Nat.reduceMul, Nat.reduceLeDiff, reduceIte, reduceCtorEq, Int.lt_irrefl, Nat.reduceMod, Nat.reduceBEq, eq_self, false_and, and_false, hs, hin, Int.natCast_nonneg, hi']))
            | refine wpA_block ?_
            | (refine wpA_cond rfl (fun h => ?_) (fun h => ?_) <;> (try (cases h; done)))
            | (refine wpA_ret (fin_pure (.inl rfl) rfl (by simp only [go_sem, Nat.reduceLT, Nat.reduceEqDiff, Nat.reduceAdd, Nat.reduceSub, Nat.reduceMul, Nat.reduceLeDiff, reduceIte, reduceCtorEq, Int.lt_irrefl, Nat.reduceMod, Nat.reduceBEq, eq_self, false_and, and_false, hs, hin, Int.natCast_nonneg, hi']; rfl) ?_ (hW _)); (try simp only [go_sem, Nat.reduceLT, Nat.reduceEqDiff, Nat.reduceAdd, Nat.reduceSub, Nat.reduceMul, Nat.reduceLeDiff, reduceIte, reduceCtorEq, Int.lt_irrefl, Nat.reduceMod, Nat.reduceBEq, eq_self, false_and, and_false, hs, hin, Int.natCast_nonneg, hi']))
            | (refine wpA_ret (fin_pureM (.inl rfl) (by simp only [go_sem, Nat.reduceLT, Nat.reduceEqDiff, Nat.reduceAdd, Nat.reduceSub, Nat.reduceMul, Nat.reduceLeDiff, reduceIte, reduceCtorEq, Int.lt_irrefl, Nat.reduceMod, Nat.reduceBEq, eq_self, false_and, and_false]) (by simp only [go_sem, Nat.reduceLT, Nat.reduceEqDiff, Nat.reduceAdd, Nat.reduceSub, Nat.reduceMul, Nat.reduceLeDiff, reduceIte, reduceCtorEq, Int.lt_irrefl, Nat.reduceMod, Nat.reduceBEq, eq_self, false_and, and_false, hs, hin, Int.natCast_nonneg, hi']; rfl) ?_ (hW _)); (try simp only [go_sem, Nat.reduceLT, Nat.reduceEqDiff, Nat.reduceAdd, Nat.reduceSub, Nat.reduceMul, Nat.reduceLeDiff, reduceIte, reduceCtorEq, Int.lt_irrefl, Nat.reduceMod, Nat.reduceBEq, eq_self, false_and, and_false, hs, hin, Int.natCast_nonneg, hi']))
            | fail)
          all_goals first
            | (simp at h; done)
            | skip
          refine ⟨wk_to (wk_kp [3, 5, 8, 9, 10, 11, 12, 13, 71, 72] [0, 1, 2] (by simp) (by simp) rfl) (by simp only [go_sem, Nat.reduceLT, Nat.reduceEqDiff, Nat.reduceAdd, Nat.reduceSub, Nat.reduceMul, Nat.reduceLeDiff, reduceIte, reduceCtorEq, Int.lt_irrefl, Nat.reduceMod, Nat.reduceBEq, eq_self, false_and, and_false, hW _,  hw, hst]), ?_⟩
          trivial
        · obtain ⟨q, hq, _, _⟩ := get_of_lt (l := l) (i := i - 1) (by omega)
          have hip : (i : Int) > 0 := by omega
          have hwp := wrapP (i := i) (n := l.length) hi (by omega) (by omega)
          have hmb : moveB l i = (q.till == s.since) := by simp [moveB, hs, hq]
          have hst := movesTo_step l (show 0 < i by omega)
          rw [hmb] at hst
          cases hb : (q.till == s.since) with
          | true =>
            rw [hb, if_pos rfl] at hst
            repeat' (first
              | refine wpA_seq ?_
              | refine wpA_skip ?_
              | (refine wpA_exit ?_)
              | (refine hK _ _ ?_; clear hK K)
              | (refine hK _ _ rfl ?_; clear hK K)
              | (refine wpA_reg hT hE fun K hK => ?_; simp only [go_sem, Nat.reduceLT, Nat.reduceEqDiff, Nat.reduceAdd, Nat.reduceSub, Nat.reduceMul, Nat.reduceLeDiff, reduceIte, reduceCtorEq, Int.lt_irrefl, Nat.reduceMod, Nat.reduceBEq, eq_self, false_and, and_false, hs, hq, hip, hwp, hb, Int.natCast_nonneg, hi'])
              | (refine wpA_drw hT hE hmix (by kernel_rfl) fun K hK => ?_; simp only [go_sem, Nat.reduceLT, Nat.reduceEqDiff, Nat.reduceAdd, Nat.reduceSub, Nat.reduceMul, Nat.reduceLeDiff, reduceIte, reduceCtorEq, Int.lt_irrefl, Nat.reduceMod, Nat.reduceBEq, eq_self, false_and, and_false, hs, hq, hip, hwp, hb, Int.natCast_nonneg, hi'])
              | (refine gd_t (fun h => ?_) (fun h => ?_) <;> (try simp only [h, go_sem, Nat.reduceLT, Nat.reduceEqDiff, Nat.reduceAdd, Nat.reduceSub, Nat.reduceMul, Nat.reduceLeDiff, reduceIte, reduceCtorEq, Int.lt_irrefl, Nat.reduceMod, Nat.reduceBEq, eq_self, false_and, and_false, hs, hq, hip, hwp, hb, Int.natCast_nonneg, hi']))
              | (refine gd_f (fun h => ?_) (fun h => ?_) <;> (try simp only [h, go_sem, Nat.reduceLT, Nat.reduceEqDiff, Nat.reduceAdd, Nat.reduceSub, Nat.reduceMul, Nat.reduceLeDiff, reduceIte, reduceCtorEq, Int.lt_irrefl, Nat.reduceMod, Nat.reduceBEq, eq_self, false_and, and_false, hs, hq, hip, hwp, hb, Int.natCast_nonneg, hi']))
              | refine wpA_block ?_
              | (refine wpA_cond rfl (fun h => ?_) (fun h => ?_) <;> (try (cases h; done)))
              | (refine wpA_ret (fin_pure (.inl rfl) rfl (by simp only [go_sem, Nat.reduceLT, Nat.reduceEqDiff, Nat.reduceAdd, Nat.reduceSub, Nat.reduceMul, Nat.reduceLeDiff, reduceIte, reduceCtorEq, Int.lt_irrefl, Nat.reduceMod, Nat.reduceBEq, eq_self, false_and, and_false, hs, hq, hip, hwp, hb, Int.natCast_nonneg, hi']; rfl) ?_ (hW _)); (try simp only [go_sem, Nat.reduceLT, Nat.reduceEqDiff, Nat.reduceAdd, Nat.reduceSub, Nat.reduceMul, Nat.reduceLeDiff, reduceIte, reduceCtorEq, Int.lt_irrefl, Nat.reduceMod, Nat.reduceBEq, eq_self, false_and, and_false, hs, hq, hip, hwp, hb, Int.natCast_nonneg, hi']))
              | (refine wpA_ret (fin_pureM (.inl rfl) (by simp only [go_sem, Nat.reduceLT, Nat.reduceEqDiff, Nat.reduceAdd, Nat.reduceSub, Nat.reduceMul, Nat.reduceLeDiff, reduceIte, reduceCtorEq, Int.lt_irrefl, Nat.reduceMod, Nat.reduceBEq, eq_self, false_and, and_false]) (by simp only [go_sem, Nat.reduceLT, Nat.reduceEqDiff, Nat.reduceAdd, Nat.reduceSub, Nat.reduceMul, Nat.reduceLeDiff, reduceIte, reduceCtorEq, Int.lt_irrefl, Nat.reduceMod, Nat.reduceBEq, eq_self, false_and, and_false, hs, hq, hip, hwp, hb, Int.natCast_nonneg, hi']; rfl) ?_ (hW _)); (try simp only [go_sem, Nat.reduceLT, Nat.reduceEqDiff, Nat.reduceAdd, Nat.reduceSub, Nat.reduceMul, Nat.reduceLeDiff, reduceIte, reduceCtorEq, Int.lt_irrefl, Nat.reduceMod, Nat.reduceBEq, eq_self, false_and, and_false, hs, hq, hip, hwp, hb, Int.natCast_nonneg, hi']))
              | fail)
            all_goals first
              | (simp at h; done)
              | skip
            refine ⟨wk_to (wk_kp [3, 5, 8, 9, 10, 11, 12, 13, 71, 72] [0, 1, 2] (by simp) (by simp) rfl) (by simp only [go_sem, Nat.reduceLT, Nat.reduceEqDiff, Nat.reduceAdd, Nat.reduceSub, Nat.reduceMul, Nat.reduceLeDiff, reduceIte, reduceCtorEq, Int.lt_irrefl, Nat.reduceMod, Nat.reduceBEq, eq_self, false_and, and_false, hW _,  hw, hwm, hst]), ?_⟩
            trivial
          | false =>
            rw [hb, if_neg (by simp), Int.add_zero] at hst
            repeat' (first
              | refine wpA_seq ?_
              | refine wpA_skip ?_
              | (refine wpA_exit ?_)
              | (refine hK _ _ ?_; clear hK K)
              | (refine hK _ _ rfl ?_; clear hK K)
              | (refine wpA_reg hT hE fun K hK => ?_; simp only [go_sem, Nat.reduceLT, Nat.reduceEqDiff, Nat.reduceAdd, Nat.reduceSub, Nat.reduceMul, Nat.reduceLeDiff, reduceIte, reduceCtorEq, Int.lt_irrefl, Nat.reduceMod, Nat.reduceBEq, eq_self, false_and, and_false, hs, hq, hip, hwp, hb, Int.natCast_nonneg, hi'])
              | (refine wpA_drw hT hE hmix (by kernel_rfl) fun K hK => ?_; simp only [go_sem, Nat.reduceLT, Nat.reduceEqDiff, Nat.reduceAdd, Nat.reduceSub, Nat.reduceMul, Nat.reduceLeDiff, reduceIte, reduceCtorEq, Int.lt_irrefl, Nat.reduceMod, Nat.reduceBEq, eq_self, false_and, and_false, hs, hq, hip, hwp, hb, Int.natCast_nonneg, hi'])
              | (refine gd_t (fun h => ?_) (fun h => ?_) <;> (try simp only [h, go_sem, Nat.reduceLT, Nat.reduceEqDiff, Nat.reduceAdd, Nat.reduceSub, Nat.reduceMul, Nat.reduceLeDiff, reduceIte, reduceCtorEq, Int.lt_irrefl, Nat.reduceMod, Nat.reduceBEq, eq_self, false_and, and_false, hs, hq, hip, hwp, hb, Int.natCast_nonneg, hi']))
              | (refine gd_f (fun h => ?_) (fun h => ?_) <;> (try simp only [h, go_sem, Nat.reduceLT, Nat.reduceEqDiff, Nat.reduceAdd, Nat.reduceSub, Nat.reduceMul, Nat.reduceLeDiff, reduceIte, reduceCtorEq, Int.lt_irrefl, Nat.reduceMod, Nat.reduceBEq, eq_self, false_and, and_false, hs, hq, hip, hwp, hb, Int.natCast_nonneg, hi']))
              | refine wpA_block ?_
              | (refine wpA_cond rfl (fun h => ?_) (fun h => ?_) <;> (try (cases h; done)))
              | (refine wpA_ret (fin_pure (.inl rfl) rfl (by simp only [go_sem, Nat.reduceLT, Nat.reduceEqDiff, Nat.reduceAdd, Nat.reduceSub, Nat.reduceMul, Nat.reduceLeDiff, reduceIte, reduceCtorEq, Int.lt_irrefl, Nat.reduceMod, Nat.reduceBEq, eq_self, false_and, and_false, hs, hq, hip, hwp, hb, Int.natCast_nonneg, hi']; rfl) ?_ (hW _)); (try simp only [go_sem, Nat.reduceLT, Nat.reduceEqDiff, Nat.reduceAdd, Nat.reduceSub, Nat.reduceMul, Nat.reduceLeDiff, reduceIte, reduceCtorEq, Int.lt_irrefl, Nat.reduceMod, Nat.reduceBEq, eq_self, false_and, and_false, hs, hq, hip, hwp, hb, Int.natCast_nonneg, hi']))
              | (refine wpA_ret (fin_pureM (.inl rfl) (by simp only [go_sem, Nat.reduceLT, Nat.reduceEqDiff, Nat.reduceAdd, Nat.reduceSub, Nat.reduceMul, Nat.reduceLeDiff, reduceIte, reduceCtorEq, Int.lt_irrefl, Nat.reduceMod, Nat.reduceBEq, eq_self, false_and, and_false]) (by simp only [go_sem, Nat.reduceLT, Nat.reduceEqDiff, Nat.reduceAdd, Nat.reduceSub, Nat.reduceMul, Nat.reduceLeDiff, reduceIte, reduceCtorEq, Int.lt_irrefl, Nat.reduceMod, Nat.reduceBEq, eq_self, false_and, and_false, hs, hq, hip, hwp, hb, Int.natCast_nonneg, hi']; rfl) ?_ (hW _)); (try simp only [go_sem, Nat.reduceLT, Nat.reduceEqDiff, Nat.reduceAdd, Nat.reduceSub, Nat.reduceMul, Nat.reduceLeDiff, reduceIte, reduceCtorEq, Int.lt_irrefl, Nat.reduceMod, Nat.reduceBEq, eq_self, false_and, and_false, hs, hq, hip, hwp, hb, Int.natCast_nonneg, hi']))
              | fail)
            all_goals first
              | (simp at h; done)
              | skip
            refine ⟨wk_to (wk_kp [3, 5, 8, 9, 10, 11, 12, 13, 71, 72] [0, 1, 2] (by simp) (by simp) rfl) (by simp only [go_sem, Nat.reduceLT, Nat.reduceEqDiff, Nat.reduceAdd, Nat.reduceSub, Nat.reduceMul, Nat.reduceLeDiff, reduceIte, reduceCtorEq, Int.lt_irrefl, Nat.reduceMod, Nat.reduceBEq, eq_self, false_and, and_false, hW _,  hw, hst]), ?_⟩
            trivial
      · intro _
        have hi' : ¬ ((l.length : Int) < l.length) := by omega
        have hmm : (movesTo l l.length != movesTo l l.length) = false := by simp
        cases htm : (!timeOK a || (!timeOK z || decide (a > z))) with
        | true =>
          have h2 : cutF t a z = (noTrace, 2) := by unfold cutF; rw [if_neg (by rw [hr]; simp), if_pos htm]
          rw [h2] at hX
          obtain ⟨rfl, rfl⟩ := Prod.mk.inj hX
          clear hX h2
          repeat' (first
            | refine wpA_seq ?_
            | refine wpA_skip ?_
            | (refine wpA_exit ?_)
            | (refine hK _ _ ?_; clear hK K)
            | (refine hK _ _ rfl ?_; clear hK K)
            | (refine wpA_reg hT hE fun K hK => ?_; simp only [go_sem, Nat.reduceLT, Nat.reduceEqDiff, Nat.reduceAdd, Nat.reduceSub, Nat.reduceMul, Nat.reduceLeDiff, reduceIte, reduceCtorEq, Int.lt_irrefl, Nat.reduceMod, Nat.reduceBEq, eq_self, false_and, and_false, hi', hmm, ix2_0, ix2_1, noTrace])
            | (refine wpA_drw hT hE hmix (by kernel_rfl) fun K hK => ?_; simp only [go_sem, Nat.reduceLT, Nat.reduceEqDiff, Nat.reduceAdd, Nat.reduceSub, Nat.reduceMul, Nat.reduceLeDiff, reduceIte, reduceCtorEq, Int.lt_irrefl, Nat.reduceMod, Nat.reduceBEq, eq_self, false_and, and_false, hi', hmm, ix2_0, ix2_1, noTrace])
            | (refine gd_t (fun h => ?_) (fun h => ?_) <;> (try simp only [h, go_sem, Nat.reduceLT, Nat.reduceEqDiff, Nat.reduceAdd, Nat.reduceSub, Nat.reduceMul, Nat.reduceLeDiff, reduceIte, reduceCtorEq, Int.lt_irrefl, Nat.reduceMod, Nat.reduceBEq, eq_self, false_and, and_false, hi', hmm, ix2_0, ix2_1, noTrace]))
            | (refine gd_f (fun h => ?_) (fun h => ?_) <;> (try simp only [h, go_sem, Nat.reduceLT, Nat.reduceEqDiff, Nat.reduceAdd, Nat.reduceSub, Nat.reduceMul, Nat.reduceLeDiff, reduceIte, reduceCtorEq, Int.lt_irrefl, Nat.reduceMod, Nat.reduceBEq, eq_self, false_and, and_false, hi', hmm, ix2_0, ix2_1, noTrace]))
            | refine wpA_block ?_
            | (refine wpA_cond rfl (fun h => ?_) (fun h => ?_) <;> (try (cases h; done)))
            | (refine wpA_ret (fin_pure (.inl rfl) rfl (by simp only [go_sem, Nat.reduceLT, Nat.reduceEqDiff, Nat.reduceAdd, Nat.reduceSub, Nat.reduceMul, Nat.reduceLeDiff, reduceIte, reduceCtorEq, Int.lt_irrefl, Nat.reduceMod, Nat.reduceBEq, eq_self, false_and, and_false, hi', hmm, ix2_0, ix2_1, noTrace]; rfl) ?_ (hW _)); (try simp only [go_sem, Nat.reduceLT, Nat.reduceEqDiff, Nat.reduceAdd, Nat.reduceSub, Nat.reduceMul, Nat.reduceLeDiff, reduceIte, reduceCtorEq, Int.lt_irrefl, Nat.reduceMod, Nat.reduceBEq, eq_self, false_and, and_false, hi', hmm, ix2_0, ix2_1, noTrace]))
            | (refine wpA_ret (fin_pureM (.inl rfl) (by simp only [go_sem, Nat.reduceLT, Nat.reduceEqDiff, Nat.reduceAdd, Nat.reduceSub, Nat.reduceMul, Nat.reduceLeDiff, reduceIte, reduceCtorEq, Int.lt_irrefl, Nat.reduceMod, Nat.reduceBEq, eq_self, false_and, and_false]) (by simp only [go_sem, Nat.reduceLT, Nat.reduceEqDiff, Nat.reduceAdd, Nat.reduceSub, Nat.reduceMul, Nat.reduceLeDiff, reduceIte, reduceCtorEq, Int.lt_irrefl, Nat.reduceMod, Nat.reduceBEq, eq_self, false_and, and_false, hi', hmm, ix2_0, ix2_1, noTrace]; rfl) ?_ (hW _)); (try simp only [go_sem, Nat.reduceLT, Nat.reduceEqDiff, Nat.reduceAdd, Nat.reduceSub, Nat.reduceMul, Nat.reduceLeDiff, reduceIte, reduceCtorEq, Int.lt_irrefl, Nat.reduceMod, Nat.reduceBEq, eq_self, false_and, and_false, hi', hmm, ix2_0, ix2_1, noTrace]))
            | (refine ⟨_, [], [], PureE.call (Time_spec a) (by first | (simp; done) | (simp [hpF_add, hpF_lo]; done) | exact need_hp htop hn | exact need_hp2 htop hn), ?_⟩; (try simp only [go_sem, Nat.reduceLT, Nat.reduceEqDiff, Nat.reduceAdd, Nat.reduceSub, Nat.reduceMul, Nat.reduceLeDiff, reduceIte, reduceCtorEq, Int.lt_irrefl, Nat.reduceMod, Nat.reduceBEq, eq_self, false_and, and_false, hi', hmm, ix2_0, ix2_1, noTrace]))
            | (refine ⟨_, _, [], PureE.toS (Time_spec a), by first | (simp; done) | (simp [hpF_add, hpF_lo]; done) | exact need_hp htop hn | exact need_hp2 htop hn, by simp, ?_⟩; (try simp only [go_sem, Nat.reduceLT, Nat.reduceEqDiff, Nat.reduceAdd, Nat.reduceSub, Nat.reduceMul, Nat.reduceLeDiff, reduceIte, reduceCtorEq, Int.lt_irrefl, Nat.reduceMod, Nat.reduceBEq, eq_self, false_and, and_false, hi', hmm, ix2_0, ix2_1, noTrace]))
            | (refine ⟨_, [], [], PureE.call (Time_spec z) (by first | (simp; done) | (simp [hpF_add, hpF_lo]; done) | exact need_hp htop hn | exact need_hp2 htop hn), ?_⟩; (try simp only [go_sem, Nat.reduceLT, Nat.reduceEqDiff, Nat.reduceAdd, Nat.reduceSub, Nat.reduceMul, Nat.reduceLeDiff, reduceIte, reduceCtorEq, Int.lt_irrefl, Nat.reduceMod, Nat.reduceBEq, eq_self, false_and, and_false, hi', hmm, ix2_0, ix2_1, noTrace]))
            | (refine ⟨_, _, [], PureE.toS (Time_spec z), by first | (simp; done) | (simp [hpF_add, hpF_lo]; done) | exact need_hp htop hn | exact need_hp2 htop hn, by simp, ?_⟩; (try simp only [go_sem, Nat.reduceLT, Nat.reduceEqDiff, Nat.reduceAdd, Nat.reduceSub, Nat.reduceMul, Nat.reduceLeDiff, reduceIte, reduceCtorEq, Int.lt_irrefl, Nat.reduceMod, Nat.reduceBEq, eq_self, false_and, and_false, hi', hmm, ix2_0, ix2_1, noTrace]))
            | fail)
          all_goals first
            | (simp at h; done)
            | skip
          all_goals
            have g1 : (!timeOK a) = false := by assumption
            have g2 : (!timeOK z) = false := by assumption
            have g3 : decide (a > z) = false := by assumption
            rw [g1, g2, g3] at htm
            cases htm
        | false =>
          have h2 : cutF t a z = (cutTo t a z t.frames.length, 0) := by unfold cutF; rw [if_neg (by rw [hr]; simp), if_neg (by rw [htm]; simp)]
          rw [h2] at hX
          obtain ⟨rfl, rfl⟩ := Prod.mk.inj hX
          clear hX h2
          simp only [Bool.or_eq_false_iff, Bool.not_eq_false'] at htm
          obtain ⟨hx, hy, hxy⟩ := htm
          have hrc := RefCut_spec t a z hl
          generalize cutTo t a z t.frames.length = X at hrc ⊢
          have hss := SameRef_spec X X
          rw [decide_eq_true rfl] at hss
          repeat' (first
            | refine wpA_seq ?_
            | refine wpA_skip ?_
            | (refine wpA_exit ?_)
            | (refine hK _ _ ?_; clear hK K)
            | (refine hK _ _ rfl ?_; clear hK K)
            | (refine wpA_reg hT hE fun K hK => ?_; simp only [go_sem, Nat.reduceLT, Nat.reduceEqDiff, Nat.reduceAdd, Nat.reduceSub, Nat.reduceMul, Nat.reduceLeDiff, reduceIte, reduceCtorEq, Int.lt_irrefl, Nat.reduceMod, Nat.reduceBEq, eq_self, false_and, and_false, hi', hmm, ix2_0, ix2_1, hx, hy, hxy])
            | (refine wpA_drw hT hE hmix (by kernel_rfl) fun K hK => ?_; simp only [go_sem, Nat.reduceLT, Nat.reduceEqDiff, Nat.reduceAdd, Nat.reduceSub, Nat.reduceMul, Nat.reduceLeDiff, reduceIte, reduceCtorEq, Int.lt_irrefl, Nat.reduceMod, Nat.reduceBEq, eq_self, false_and, and_false, hi', hmm, ix2_0, ix2_1, hx, hy, hxy])
            | (refine gd_t (fun h => ?_) (fun h => ?_) <;> (try simp only [h, go_sem, Nat.reduceLT, Nat.reduceEqDiff, Nat.reduceAdd, Nat.reduceSub, Nat.reduceMul, Nat.reduceLeDiff, reduceIte, reduceCtorEq, Int.lt_irrefl, Nat.reduceMod, Nat.reduceBEq, eq_self, false_and, and_false, hi', hmm, ix2_0, ix2_1, hx, hy, hxy]))
            | (refine gd_f (fun h => ?_) (fun h => ?_) <;> (try simp only [h, go_sem, Nat.reduceLT, Nat.reduceEqDiff, Nat.reduceAdd, Nat.reduceSub, Nat.reduceMul, Nat.reduceLeDiff, reduceIte, reduceCtorEq, Int.lt_irrefl, Nat.reduceMod, Nat.reduceBEq, eq_self, false_and, and_false, hi', hmm, ix2_0, ix2_1, hx, hy, hxy]))
            | refine wpA_block ?_
            | (refine wpA_cond rfl (fun h => ?_) (fun h => ?_) <;> (try (cases h; done)))
            | (refine wpA_ret (fin_pure (.inl rfl) rfl (by simp only [go_sem, Nat.reduceLT, Nat.reduceEqDiff, Nat.reduceAdd, Nat.reduceSub, Nat.reduceMul, Nat.reduceLeDiff, reduceIte, reduceCtorEq, Int.lt_irrefl, Nat.reduceMod, Nat.reduceBEq, eq_self, false_and, and_false, hi', hmm, ix2_0, ix2_1, hx, hy, hxy]; rfl) ?_ (hW _)); (try simp only [go_sem, Nat.reduceLT, Nat.reduceEqDiff, Nat.reduceAdd, Nat.reduceSub, Nat.reduceMul, Nat.reduceLeDiff, reduceIte, reduceCtorEq, Int.lt_irrefl, Nat.reduceMod, Nat.reduceBEq, eq_self, false_and, and_false, hi', hmm, ix2_0, ix2_1, hx, hy, hxy]))
            | (refine wpA_ret (fin_pureM (.inl rfl) (by simp only [go_sem, Nat.reduceLT, Nat.reduceEqDiff, Nat.reduceAdd, Nat.reduceSub, Nat.reduceMul, Nat.reduceLeDiff, reduceIte, reduceCtorEq, Int.lt_irrefl, Nat.reduceMod, Nat.reduceBEq, eq_self, false_and, and_false]) (by simp only [go_sem, Nat.reduceLT, Nat.reduceEqDiff, Nat.reduceAdd, Nat.reduceSub, Nat.reduceMul, Nat.reduceLeDiff, reduceIte, reduceCtorEq, Int.lt_irrefl, Nat.reduceMod, Nat.reduceBEq, eq_self, false_and, and_false, hi', hmm, ix2_0, ix2_1, hx, hy, hxy]; rfl) ?_ (hW _)); (try simp only [go_sem, Nat.reduceLT, Nat.reduceEqDiff, Nat.reduceAdd, Nat.reduceSub, Nat.reduceMul, Nat.reduceLeDiff, reduceIte, reduceCtorEq, Int.lt_irrefl, Nat.reduceMod, Nat.reduceBEq, eq_self, false_and, and_false, hi', hmm, ix2_0, ix2_1, hx, hy, hxy]))
            | (refine ⟨_, [], [], PureE.call (Time_spec a) (by first | (simp; done) | (simp [hpF_add, hpF_lo]; done) | exact need_hp htop hn | exact need_hp2 htop hn), ?_⟩; (try simp only [go_sem, Nat.reduceLT, Nat.reduceEqDiff, Nat.reduceAdd, Nat.reduceSub, Nat.reduceMul, Nat.reduceLeDiff, reduceIte, reduceCtorEq, Int.lt_irrefl, Nat.reduceMod, Nat.reduceBEq, eq_self, false_and, and_false, hi', hmm, ix2_0, ix2_1, hx, hy, hxy]))
            | (refine ⟨_, _, [], PureE.toS (Time_spec a), by first | (simp; done) | (simp [hpF_add, hpF_lo]; done) | exact need_hp htop hn | exact need_hp2 htop hn, by simp, ?_⟩; (try simp only [go_sem, Nat.reduceLT, Nat.reduceEqDiff, Nat.reduceAdd, Nat.reduceSub, Nat.reduceMul, Nat.reduceLeDiff, reduceIte, reduceCtorEq, Int.lt_irrefl, Nat.reduceMod, Nat.reduceBEq, eq_self, false_and, and_false, hi', hmm, ix2_0, ix2_1, hx, hy, hxy]))
            | (refine ⟨_, [], [], PureE.call (Time_spec z) (by first | (simp; done) | (simp [hpF_add, hpF_lo]; done) | exact need_hp htop hn | exact need_hp2 htop hn), ?_⟩; (try simp only [go_sem, Nat.reduceLT, Nat.reduceEqDiff, Nat.reduceAdd, Nat.reduceSub, Nat.reduceMul, Nat.reduceLeDiff, reduceIte, reduceCtorEq, Int.lt_irrefl, Nat.reduceMod, Nat.reduceBEq, eq_self, false_and, and_false, hi', hmm, ix2_0, ix2_1, hx, hy, hxy]))
            | (refine ⟨_, _, [], PureE.toS (Time_spec z), by first | (simp; done) | (simp [hpF_add, hpF_lo]; done) | exact need_hp htop hn | exact need_hp2 htop hn, by simp, ?_⟩; (try simp only [go_sem, Nat.reduceLT, Nat.reduceEqDiff, Nat.reduceAdd, Nat.reduceSub, Nat.reduceMul, Nat.reduceLeDiff, reduceIte, reduceCtorEq, Int.lt_irrefl, Nat.reduceMod, Nat.reduceBEq, eq_self, false_and, and_false, hi', hmm, ix2_0, ix2_1, hx, hy, hxy]))
            | (refine ⟨_, [], [], PureE.call (hrc) (by first | (simp; done) | (simp [hpF_add, hpF_lo]; done) | exact need_hp htop hn | exact need_hp2 htop hn), ?_⟩; (try simp only [go_sem, Nat.reduceLT, Nat.reduceEqDiff, Nat.reduceAdd, Nat.reduceSub, Nat.reduceMul, Nat.reduceLeDiff, reduceIte, reduceCtorEq, Int.lt_irrefl, Nat.reduceMod, Nat.reduceBEq, eq_self, false_and, and_false, hi', hmm, ix2_0, ix2_1, hx, hy, hxy]))
            | (refine ⟨_, _, [], PureE.toS (hrc), by first | (simp; done) | (simp [hpF_add, hpF_lo]; done) | exact need_hp htop hn | exact need_hp2 htop hn, by simp, ?_⟩; (try simp only [go_sem, Nat.reduceLT, Nat.reduceEqDiff, Nat.reduceAdd, Nat.reduceSub, Nat.reduceMul, Nat.reduceLeDiff, reduceIte, reduceCtorEq, Int.lt_irrefl, Nat.reduceMod, Nat.reduceBEq, eq_self, false_and, and_false, hi', hmm, ix2_0, ix2_1, hx, hy, hxy]))
            | (refine ⟨_, [], [], PureE.call (hss) (by first | (simp; done) | (simp [hpF_add, hpF_lo]; done) | exact need_hp htop hn | exact need_hp2 htop hn), ?_⟩; (try simp only [go_sem, Nat.reduceLT, Nat.reduceEqDiff, Nat.reduceAdd, Nat.reduceSub, Nat.reduceMul, Nat.reduceLeDiff, reduceIte, reduceCtorEq, Int.lt_irrefl, Nat.reduceMod, Nat.reduceBEq, eq_self, false_and, and_false, hi', hmm, ix2_0, ix2_1, hx, hy, hxy]))
            | (refine ⟨_, _, [], PureE.toS (hss), by first | (simp; done) | (simp [hpF_add, hpF_lo]; done) | exact need_hp htop hn | exact need_hp2 htop hn, by simp, ?_⟩; (try simp only [go_sem, Nat.reduceLT, Nat.reduceEqDiff, Nat.reduceAdd, Nat.reduceSub, Nat.reduceMul, Nat.reduceLeDiff, reduceIte, reduceCtorEq, Int.lt_irrefl, Nat.reduceMod, Nat.reduceBEq, eq_self, false_and, and_false, hi', hmm, ix2_0, ix2_1, hx, hy, hxy]))
            | fail)
          all_goals first
            | (simp at h; done)
            | skip
end Go.Proofs.Ythlmfkeeneeaoaa

namespace Go.Proofs.Ythlmfkeeneeaoaa
open Go Go.Av Go.ChangeShapes Go.WideShapes Go.ChangeAt Go.RowKit

namespace traceSpans
set_option maxRecDepth 100000 in
theorem lifted (os : Os) (started : os.Started) (H : Type) (enc : TypeId × Value → H) :
    ReturnsInHanded {} Try.checked os 8 .any (Rows.traceSpansSpec.pre6 enc Try.prog Try.f8 Rows.traceSpansRow.domain false) (Rows.traceSpansSpec.post enc Try.prog Try.f8 false true false false) := by
  refine returnsInHanded_of_change (C := Try.checked) own started (by kernel_rfl) Try.func8
    (ChangeSpec.witness6 (enc := enc) (C := Try.checked) false ⟨#[], #[.agg #[.slice none 0 0, .int .i64 0], .int .i64 0, .agg #[.int .i64 0, .int .i64 0]], []⟩ 8 (by kernel_rfl) (by kernel_rfl) (by kernel_rfl) (by kernel_rfl)) ?_
  intro W base args ds gs before hval0 hW hcnd _
  have hval : ∀ (j : Nat) t v, Try.f8.params[j]? = some t → args[j]? = some v → Value.okWide Try.prog W .any base t v := hval0
  have hW' := hW
  obtain ⟨p, q, hA0, hV, rfl, hfz, hnd⟩ := hW
  have hA : DataW.TrodAll enc Try.prog W 0 (fun _ => true) true Try.f8.params.toList args.toList ds p := hA0
  rw [Try.params8] at hA hval
  obtain ⟨v0, vs0, d0, ds0, p0, q0, hargs, rfl, rfl, ⟨n0, h0⟩, r0⟩ := trodAll_cons hA
  obtain ⟨v1, vs1, d1, ds1, p1, q1, rfl, rfl, rfl, ⟨n1, h1⟩, r1⟩ := trodAll_cons r0
  obtain ⟨v2, vs2, d2, ds2, p2, q2, rfl, rfl, rfl, ⟨n2, h2⟩, r2⟩ := trodAll_cons r1
  obtain ⟨rfl, rfl, rfl⟩ := trodAll_nil r2
  obtain rfl : args = #[v0, v1, v2] := by cases args; simp_all
  obtain ⟨t, _, rt⟩ := rdTrace W H enc _ _ _ _ _ h0
  obtain ⟨u, _, rn⟩ := rdInt W H enc _ _ _ _ _ h1
  obtain ⟨⟨x, y⟩, _, rp⟩ := rdI64s W H enc _ _ _ _ _ h2
  have e0 : Rel (topCx W) (aTrace t) v0 := rel_agg (xs := (aTrace t).cells) Try.underlying24 (hval 0 24 v0 rfl rfl) rt
  obtain ⟨x1, rfl⟩ := okWide_int Try.underlying3 (hval 1 3 v1 rfl rfl)
  have e1 := rel_one rfl rn
  have e2 := rel_arr Try.underlying54 (hval 2 54 v2 rfl rfl) rp
  have hc := (TraceSpans_walk t u x y (fun _ => none) 0 (by simp)).2.2 (topCx W) [v0, _, _] (topHeap W) (fun _ _ => rfl) ⟨_, _, rfl, e0, _, _, rfl, e1, _, _, rfl, e2, rfl⟩
  refine hc.mono ?_
  rintro e W' ⟨c', y, rfl, rfl, hH, hr, hle⟩
  obtain ⟨rfl, _⟩ := hr
  refine ⟨_, rfl, post_law hlaid hmaps hslices (by rw [Try.params8]; decide +kernel) hW' hle Try.underlying4 (by kernel_rfl) rfl (fun hg => by rw [hg]; rfl)⟩

theorem over : Rows.traceSpansRow.holds Try.pinned (OpenSpec.ofChange Rows.traceSpansSpec) :=
  OpenClaim.holds_of_wide 8 Try.f8 rfl rfl rfl rfl rfl rfl rfl ⟨rfl, rfl, rfl, rfl, rfl⟩ rfl rfl rfl rfl rfl (by kernel_rfl) Try.func8 (by kernel_rfl)
    (of_decide_eq_true (by kernel_rfl)) (by unfold Func.isWrapper; first | (rw [if_pos (by decide +kernel)]; kernel_rfl) | (rw [if_neg (by decide +kernel)]; exact ⟨rfl, rfl⟩))
    (fun os started H enc _ => lifted os started H enc)
theorem proved : Rows.TraceSpansSaid := over
end traceSpans
end Go.Proofs.Ythlmfkeeneeaoaa
