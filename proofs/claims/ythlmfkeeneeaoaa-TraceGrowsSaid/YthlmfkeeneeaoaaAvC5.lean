/- It is proved that TraceGrows answers true for every list of steps (the given statement TraceGrowsSaid); no condition is added. -/
import Derived.Test.YthlmfkeeneeaoaaAvW4
import Derived.Test.YthlmfkeeneeaoaaAvR0
set_option linter.all false
set_option linter.unnecessarySimpa false
set_option linter.unusedVariables false
set_option linter.unusedSimpArgs false
namespace Go.Proofs.Ythlmfkeeneeaoaa
open Go Go.Av

/-! ### the law TraceGrows -/
structure Step where
  after : Int
  puts : List Put
def aStep (s : Step) : AVal := .agg [.v (.int .i64 s.after), .sl (s.puts.map aPut)]
theorem subL_aStep (f : AVal → AVal) (l : List Step) : subL f (l.map aStep) = l.map aStep := by
  rw [subL_map, List.map_map]; exact List.map_congr_left fun x _ => by simp [aStep, AVal.sub, subL, subL_aPut]
attribute [go_sem] subL_aStep aStep
def laterF (t : Trace) (s : Step) : Int := t.fin + (mxI s.after 0).tmod 1000
def growS (t : Trace) (s : Step) : Trace := if s.puts.length > 30 then t else if (addF t (laterF t s) s.puts).2 = 0 then (addF t (laterF t s) s.puts).1 else t
def growF (l : List Step) : Nat → Trace
  | 0 => noTrace
  | i + 1 => match l[i]? with | some s => growS (growF l i) s | none => growF l i
def GrowI (l : List Step) (i : Nat) : Prop := i ≤ 60 ∧ right (growF l i) = true ∧ (growF l i).fin ≤ 999 * i ∧ (growF l i).frames.length ≤ i
set_option maxRecDepth 4000 in
set_option maxHeartbeats 16000000 in
theorem TraceGrows_walk (l : List Step) : PureE Try.prog 5 [.sl (l.map aStep)] [] (.v (.bool true)) := by
  intro F b hn
  refine callE_of hT (fn := Try.f5) rfl rfl rfl (by simp [fnt]) (by simp) fun htop hW => ?_
  refine wpA_bound 0 (l.map aStep) rfl fun hlen => ?_
  rw [List.length_map] at hlen
  repeat' (first
    | refine wpA_seq ?_
    | refine wpA_skip ?_
    | (refine wpA_exit ?_)
    | (refine hK _ _ ?_; clear hK K)
    | (refine hK _ _ rfl ?_; clear hK K)
    | (refine wpA_reg hT hE fun K hK => ?_; simp only [go_sem, Nat.reduceLT, Nat.reduceEqDiff, Nat.reduceAdd, Nat.reduceSub, Nat.reduceMul, Nat.reduceLeDiff, reduceIte, reduceCtorEq, Int.lt_irrefl, Nat.reduceMod, Nat.reduceBEq, eq_self, false_and, and_false])
    | (refine wpA_drw hT hE hmix (by kernel_rfl) fun K hK => ?_; simp only [go_sem, Nat.reduceLT, Nat.reduceEqDiff, Nat.reduceAdd, Nat.reduceSub, Nat.reduceMul, Nat.reduceLeDiff, reduceIte, reduceCtorEq, Int.lt_irrefl, Nat.reduceMod, Nat.reduceBEq, eq_self, false_and, and_false])
    | (refine gd_t (fun h => ?_) (fun h => ?_) <;> (try simp only [h, go_sem, Nat.reduceLT, Nat.reduceEqDiff, Nat.reduceAdd, Nat.reduceSub, Nat.reduceMul, Nat.reduceLeDiff, reduceIte, reduceCtorEq, Int.lt_irrefl, Nat.reduceMod, Nat.reduceBEq, eq_self, false_and, and_false]))
    | (refine gd_f (fun h => ?_) (fun h => ?_) <;> (try simp only [h, go_sem, Nat.reduceLT, Nat.reduceEqDiff, Nat.reduceAdd, Nat.reduceSub, Nat.reduceMul, Nat.reduceLeDiff, reduceIte, reduceCtorEq, Int.lt_irrefl, Nat.reduceMod, Nat.reduceBEq, eq_self, false_and, and_false]))
    | refine wpA_block ?_
    | (refine wpA_cond rfl (fun h => ?_) (fun h => ?_) <;> (try (cases h; done)))
    | (refine wpA_ret (fin_pure (.inl rfl) rfl (by simp only [go_sem, Nat.reduceLT, Nat.reduceEqDiff, Nat.reduceAdd, Nat.reduceSub, Nat.reduceMul, Nat.reduceLeDiff, reduceIte, reduceCtorEq, Int.lt_irrefl, Nat.reduceMod, Nat.reduceBEq, eq_self, false_and, and_false]; rfl) ?_ (hW _)); (try simp only [go_sem, Nat.reduceLT, Nat.reduceEqDiff, Nat.reduceAdd, Nat.reduceSub, Nat.reduceMul, Nat.reduceLeDiff, reduceIte, reduceCtorEq, Int.lt_irrefl, Nat.reduceMod, Nat.reduceBEq, eq_self, false_and, and_false]))
    | (refine wpA_ret (fin_pureM (.inl rfl) (by simp only [go_sem, Nat.reduceLT, Nat.reduceEqDiff, Nat.reduceAdd, Nat.reduceSub, Nat.reduceMul, Nat.reduceLeDiff, reduceIte, reduceCtorEq, Int.lt_irrefl, Nat.reduceMod, Nat.reduceBEq, eq_self, false_and, and_false]) (by simp only [go_sem, Nat.reduceLT, Nat.reduceEqDiff, Nat.reduceAdd, Nat.reduceSub, Nat.reduceMul, Nat.reduceLeDiff, reduceIte, reduceCtorEq, Int.lt_irrefl, Nat.reduceMod, Nat.reduceBEq, eq_self, false_and, and_false]; rfl) ?_ (hW _)); (try simp only [go_sem, Nat.reduceLT, Nat.reduceEqDiff, Nat.reduceAdd, Nat.reduceSub, Nat.reduceMul, Nat.reduceLeDiff, reduceIte, reduceCtorEq, Int.lt_irrefl, Nat.reduceMod, Nat.reduceBEq, eq_self, false_and, and_false]))
    | (refine ⟨_, [], [], PureE.call (wakes_spec) (by first | (simp; done) | (simp [hpF_add, hpF_lo]; done) | exact need_hp htop hn | exact need_hp2 htop hn), ?_⟩; (try simp only [go_sem, Nat.reduceLT, Nat.reduceEqDiff, Nat.reduceAdd, Nat.reduceSub, Nat.reduceMul, Nat.reduceLeDiff, reduceIte, reduceCtorEq, Int.lt_irrefl, Nat.reduceMod, Nat.reduceBEq, eq_self, false_and, and_false]))
    | (refine ⟨_, _, [], PureE.toS (wakes_spec), by first | (simp; done) | (simp [hpF_add, hpF_lo]; done) | exact need_hp htop hn | exact need_hp2 htop hn, by simp, ?_⟩; (try simp only [go_sem, Nat.reduceLT, Nat.reduceEqDiff, Nat.reduceAdd, Nat.reduceSub, Nat.reduceMul, Nat.reduceLeDiff, reduceIte, reduceCtorEq, Int.lt_irrefl, Nat.reduceMod, Nat.reduceBEq, eq_self, false_and, and_false]))
    | fail)
  refine wpA_nilOC 0 0 58 2 rfl rfl fun K hK => ?_
  try simp only [go_sem, Nat.reduceLT, Nat.reduceEqDiff, Nat.reduceAdd, Nat.reduceSub, Nat.reduceMul, Nat.reduceLeDiff, reduceIte, reduceCtorEq, Int.lt_irrefl, Nat.reduceMod, Nat.reduceBEq, eq_self, false_and, and_false]
  refine hK _ ?_; clear hK K
  refine wpA_fzw 1 rfl fun K hK => ?_
  try simp only [go_sem, Nat.reduceLT, Nat.reduceEqDiff, Nat.reduceAdd, Nat.reduceSub, Nat.reduceMul, Nat.reduceLeDiff, reduceIte, reduceCtorEq, Int.lt_irrefl, Nat.reduceMod, Nat.reduceBEq, eq_self, false_and, and_false]
  refine hK _ ?_; clear hK K
  refine wpA_kp [3, 20, 21, 22] [0] (by simp) (by simp) rfl fun K hK => ?_
  simp only [go_sem, Nat.reduceLT, Nat.reduceEqDiff, Nat.reduceAdd, Nat.reduceSub, Nat.reduceMul, Nat.reduceLeDiff, reduceIte, reduceCtorEq, Int.lt_irrefl, Nat.reduceMod, Nat.reduceBEq, eq_self, false_and, and_false, hW _]
  refine hK _ ?_; clear hK K
  refine wpA_for l.length (fun i => { tm := [(3, .ptr (b + 0) 0), (20, .sl (l.map aStep)), (21, .v (.int .i64 l.length)), (22, .v (.int .i64 i))], F := F, L := [.blk 24 [.sl ((growF l i).frames.map aFrame), .v (.int .i64 (growF l i).fin)]], ds := [] }) (GrowI l) rfl ⟨by omega, show right noTrace = true from by decide, show (0 : Int) ≤ _ from by omega, show (0 : Nat) ≤ 0 from Nat.le_refl _⟩ ?_ ?_
  · intro i hi hI
    obtain ⟨s, hs, _, _⟩ := get_of_lt hi
    obtain ⟨h60, hr, hfn, hfl⟩ := hI
    have hi' : ((i : Int) < l.length) := by omega
    have hw := wrap1 hi (by omega)
    have hnext : growF l (i + 1) = growS (growF l i) s := by simp only [growF, hs]
    have hGI : GrowI l (i + 1) = (i + 1 ≤ 60 ∧ right (growF l (i + 1)) = true ∧ (growF l (i + 1)).fin ≤ 999 * ((i + 1 : Nat) : Int) ∧ (growF l (i + 1)).frames.length ≤ i + 1) := rfl
    rw [hGI, hnext]
    generalize growF l i = t at *
    by_cases hbr : i = 60
    · have he : ((i : Int) == 60) = true := by rw [hbr]; rfl
      repeat' (first
        | refine wpA_seq ?_
        | refine wpA_skip ?_
        | (refine wpA_exit ?_)
        | (refine hK _ _ ?_; clear hK K)
        | (refine hK _ _ rfl ?_; clear hK K)
        | (refine wpA_reg hT hE fun K hK => ?_; simp only [go_sem, Nat.reduceLT, Nat.reduceEqDiff, Nat.reduceAdd, Nat.reduceSub, Nat.reduceMul, Nat.reduceLeDiff, reduceIte, reduceCtorEq, Int.lt_irrefl, Nat.reduceMod, Nat.reduceBEq, eq_self, false_and, and_false, hs, he, Int.natCast_nonneg, hi'])
        | (refine wpA_drw hT hE hmix (by kernel_rfl) fun K hK => ?_; simp only [go_sem, Nat.reduceLT, Nat.reduceEqDiff, Nat.reduceAdd, Nat.reduceSub, Nat.reduceMul, Nat.reduceLeDiff, reduceIte, reduceCtorEq, Int.lt_irrefl, Nat.reduceMod, Nat.reduceBEq, eq_self, false_and, and_false, hs, he, Int.natCast_nonneg, hi'])
        | (refine gd_t (fun h => ?_) (fun h => ?_) <;> (try simp only [h, go_sem, Nat.reduceLT, Nat.reduceEqDiff, Nat.reduceAdd, Nat.reduceSub, Nat.reduceMul, Nat.reduceLeDiff, reduceIte, reduceCtorEq, Int.lt_irrefl, Nat.reduceMod, Nat.reduceBEq, eq_self, false_and, and_false, hs, he, Int.natCast_nonneg, hi']))
        | (refine gd_f (fun h => ?_) (fun h => ?_) <;> (try simp only [h, go_sem, Nat.reduceLT, Nat.reduceEqDiff, Nat.reduceAdd, Nat.reduceSub, Nat.reduceMul, Nat.reduceLeDiff, reduceIte, reduceCtorEq, Int.lt_irrefl, Nat.reduceMod, Nat.reduceBEq, eq_self, false_and, and_false, hs, he, Int.natCast_nonneg, hi']))
        | refine wpA_block ?_
        | (refine wpA_cond rfl (fun h => ?_) (fun h => ?_) <;> (try (cases h; done)))
        | (refine wpA_ret (fin_pure (.inl rfl) rfl (by simp only [go_sem, Nat.reduceLT, Nat.reduceEqDiff, Nat.reduceAdd, Nat.reduceSub, Nat.reduceMul, Nat.reduceLeDiff, reduceIte, reduceCtorEq, Int.lt_irrefl, Nat.reduceMod, Nat.reduceBEq, eq_self, false_and, and_false, hs, he, Int.natCast_nonneg, hi']; rfl) ?_ (hW _)); (try simp only [go_sem, Nat.reduceLT, Nat.reduceEqDiff, Nat.reduceAdd, Nat.reduceSub, Nat.reduceMul, Nat.reduceLeDiff, reduceIte, reduceCtorEq, Int.lt_irrefl, Nat.reduceMod, Nat.reduceBEq, eq_self, false_and, and_false, hs, he, Int.natCast_nonneg, hi']))
        | (refine wpA_ret (fin_pureM (.inl rfl) (by simp only [go_sem, Nat.reduceLT, Nat.reduceEqDiff, Nat.reduceAdd, Nat.reduceSub, Nat.reduceMul, Nat.reduceLeDiff, reduceIte, reduceCtorEq, Int.lt_irrefl, Nat.reduceMod, Nat.reduceBEq, eq_self, false_and, and_false]) (by simp only [go_sem, Nat.reduceLT, Nat.reduceEqDiff, Nat.reduceAdd, Nat.reduceSub, Nat.reduceMul, Nat.reduceLeDiff, reduceIte, reduceCtorEq, Int.lt_irrefl, Nat.reduceMod, Nat.reduceBEq, eq_self, false_and, and_false, hs, he, Int.natCast_nonneg, hi']; rfl) ?_ (hW _)); (try simp only [go_sem, Nat.reduceLT, Nat.reduceEqDiff, Nat.reduceAdd, Nat.reduceSub, Nat.reduceMul, Nat.reduceLeDiff, reduceIte, reduceCtorEq, Int.lt_irrefl, Nat.reduceMod, Nat.reduceBEq, eq_self, false_and, and_false, hs, he, Int.natCast_nonneg, hi']))
        | fail)
    · have he : ((i : Int) == 60) = false := by rw [beq_eq_false_iff_ne]; omega
      by_cases hlong : s.puts.length > 30
      · have hlong' : ((s.puts.length : Int) > 30) := by omega
        have hst : growS t s = t := by unfold growS; rw [if_pos hlong]
        rw [hst]
        repeat' (first
          | refine wpA_seq ?_
          | refine wpA_skip ?_
          | (refine wpA_exit ?_)
          | (refine hK _ _ ?_; clear hK K)
          | (refine hK _ _ rfl ?_; clear hK K)
          | (refine wpA_reg hT hE fun K hK => ?_; simp only [go_sem, Nat.reduceLT, Nat.reduceEqDiff, Nat.reduceAdd, Nat.reduceSub, Nat.reduceMul, Nat.reduceLeDiff, reduceIte, reduceCtorEq, Int.lt_irrefl, Nat.reduceMod, Nat.reduceBEq, eq_self, false_and, and_false, hs, he, hlong', Int.natCast_nonneg, hi'])
          | (refine wpA_drw hT hE hmix (by kernel_rfl) fun K hK => ?_; simp only [go_sem, Nat.reduceLT, Nat.reduceEqDiff, Nat.reduceAdd, Nat.reduceSub, Nat.reduceMul, Nat.reduceLeDiff, reduceIte, reduceCtorEq, Int.lt_irrefl, Nat.reduceMod, Nat.reduceBEq, eq_self, false_and, and_false, hs, he, hlong', Int.natCast_nonneg, hi'])
          | (refine gd_t (fun h => ?_) (fun h => ?_) <;> (try simp only [h, go_sem, Nat.reduceLT, Nat.reduceEqDiff, Nat.reduceAdd, Nat.reduceSub, Nat.reduceMul, Nat.reduceLeDiff, reduceIte, reduceCtorEq, Int.lt_irrefl, Nat.reduceMod, Nat.reduceBEq, eq_self, false_and, and_false, hs, he, hlong', Int.natCast_nonneg, hi']))
          | (refine gd_f (fun h => ?_) (fun h => ?_) <;> (try simp only [h, go_sem, Nat.reduceLT, Nat.reduceEqDiff, Nat.reduceAdd, Nat.reduceSub, Nat.reduceMul, Nat.reduceLeDiff, reduceIte, reduceCtorEq, Int.lt_irrefl, Nat.reduceMod, Nat.reduceBEq, eq_self, false_and, and_false, hs, he, hlong', Int.natCast_nonneg, hi']))
          | refine wpA_block ?_
          | (refine wpA_cond rfl (fun h => ?_) (fun h => ?_) <;> (try (cases h; done)))
          | (refine wpA_ret (fin_pure (.inl rfl) rfl (by simp only [go_sem, Nat.reduceLT, Nat.reduceEqDiff, Nat.reduceAdd, Nat.reduceSub, Nat.reduceMul, Nat.reduceLeDiff, reduceIte, reduceCtorEq, Int.lt_irrefl, Nat.reduceMod, Nat.reduceBEq, eq_self, false_and, and_false, hs, he, hlong', Int.natCast_nonneg, hi']; rfl) ?_ (hW _)); (try simp only [go_sem, Nat.reduceLT, Nat.reduceEqDiff, Nat.reduceAdd, Nat.reduceSub, Nat.reduceMul, Nat.reduceLeDiff, reduceIte, reduceCtorEq, Int.lt_irrefl, Nat.reduceMod, Nat.reduceBEq, eq_self, false_and, and_false, hs, he, hlong', Int.natCast_nonneg, hi']))
          | (refine wpA_ret (fin_pureM (.inl rfl) (by simp only [go_sem, Nat.reduceLT, Nat.reduceEqDiff, Nat.reduceAdd, Nat.reduceSub, Nat.reduceMul, Nat.reduceLeDiff, reduceIte, reduceCtorEq, Int.lt_irrefl, Nat.reduceMod, Nat.reduceBEq, eq_self, false_and, and_false]) (by simp only [go_sem, Nat.reduceLT, Nat.reduceEqDiff, Nat.reduceAdd, Nat.reduceSub, Nat.reduceMul, Nat.reduceLeDiff, reduceIte, reduceCtorEq, Int.lt_irrefl, Nat.reduceMod, Nat.reduceBEq, eq_self, false_and, and_false, hs, he, hlong', Int.natCast_nonneg, hi']; rfl) ?_ (hW _)); (try simp only [go_sem, Nat.reduceLT, Nat.reduceEqDiff, Nat.reduceAdd, Nat.reduceSub, Nat.reduceMul, Nat.reduceLeDiff, reduceIte, reduceCtorEq, Int.lt_irrefl, Nat.reduceMod, Nat.reduceBEq, eq_self, false_and, and_false, hs, he, hlong', Int.natCast_nonneg, hi']))
          | fail)
        refine ⟨wk_to (wk_kp [3, 20, 21, 22] [0] (by simp) (by simp) rfl) (by simp only [go_sem, Nat.reduceLT, Nat.reduceEqDiff, Nat.reduceAdd, Nat.reduceSub, Nat.reduceMul, Nat.reduceLeDiff, reduceIte, reduceCtorEq, Int.lt_irrefl, Nat.reduceMod, Nat.reduceBEq, eq_self, false_and, and_false, hW _,  hw]), ?_⟩
        exact ⟨by omega, hr, by omega, by omega⟩
      · have hlong' : ¬ ((s.puts.length : Int) > 30) := by omega
        have hrf := right_fin hr
        have h1000 : ¬ ((1000 : Int) = 0) := by decide
        have hm0 : 0 ≤ mxI s.after 0 := by rw [mxI_max]; omega
        have hr1 := Int.tmod_nonneg 1000 hm0
        have hr2 := Int.tmod_lt_of_pos (mxI s.after 0) (show (0 : Int) < 1000 by decide)
        obtain ⟨now, hnow⟩ : ∃ now, now = t.fin + (mxI s.after 0).tmod 1000 := ⟨_, rfl⟩
        have hnb : t.fin ≤ now ∧ now ≤ t.fin + 999 := by omega
        have hnt : timeOK now = true := timeOK_iff.2 (by omega)
        have hwn : IntKind.i64.wrap (t.fin + (mxI s.after 0).tmod 1000) = now := by rw [← hnow, i64_id (by omega) (by omega)]
        have hlat : laterF t s = now := hnow.symm
        have haS := Add_spec t now s.puts
        have h00 : ((0 : Int) != 0) = false := by decide
        have h20 : ((2 : Int) != 0) = true := by decide
        have h22 : ((2 : Int) != 2) = false := by decide
        have hz0 : ¬ (((0 : Nat) : Int) > 0) := by decide
        clear hnow hr1 hr2 hm0
        cases hp : picF [] s.puts with
        | false =>
          have ha : addF t now s.puts = (noTrace, 2) := by
            unfold addF; rw [if_neg (by rw [hr]; simp), if_pos (by rw [hp]; simp)]
          have hst : growS t s = t := by
            unfold growS; rw [if_neg hlong, hlat, ha]; rfl
          rw [hst]
          rw [ha] at haS
          repeat' (first
            | refine wpA_seq ?_
            | refine wpA_skip ?_
            | (refine wpA_exit ?_)
            | (refine hK _ _ ?_; clear hK K)
            | (refine hK _ _ rfl ?_; clear hK K)
            | (refine wpA_reg hT hE fun K hK => ?_; simp only [go_sem, Nat.reduceLT, Nat.reduceEqDiff, Nat.reduceAdd, Nat.reduceSub, Nat.reduceMul, Nat.reduceLeDiff, reduceIte, reduceCtorEq, Int.lt_irrefl, Nat.reduceMod, Nat.reduceBEq, eq_self, false_and, and_false, hs, he, hlong', h1000, Option.map_some, hwn, h00, h20, h22, hz0, noTrace, Int.natCast_nonneg, hi'])
            | (refine wpA_drw hT hE hmix (by kernel_rfl) fun K hK => ?_; simp only [go_sem, Nat.reduceLT, Nat.reduceEqDiff, Nat.reduceAdd, Nat.reduceSub, Nat.reduceMul, Nat.reduceLeDiff, reduceIte, reduceCtorEq, Int.lt_irrefl, Nat.reduceMod, Nat.reduceBEq, eq_self, false_and, and_false, hs, he, hlong', h1000, Option.map_some, hwn, h00, h20, h22, hz0, noTrace, Int.natCast_nonneg, hi'])
            | (refine gd_t (fun h => ?_) (fun h => ?_) <;> (try simp only [h, go_sem, Nat.reduceLT, Nat.reduceEqDiff, Nat.reduceAdd, Nat.reduceSub, Nat.reduceMul, Nat.reduceLeDiff, reduceIte, reduceCtorEq, Int.lt_irrefl, Nat.reduceMod, Nat.reduceBEq, eq_self, false_and, and_false, hs, he, hlong', h1000, Option.map_some, hwn, h00, h20, h22, hz0, noTrace, Int.natCast_nonneg, hi']))
            | (refine gd_f (fun h => ?_) (fun h => ?_) <;> (try simp only [h, go_sem, Nat.reduceLT, Nat.reduceEqDiff, Nat.reduceAdd, Nat.reduceSub, Nat.reduceMul, Nat.reduceLeDiff, reduceIte, reduceCtorEq, Int.lt_irrefl, Nat.reduceMod, Nat.reduceBEq, eq_self, false_and, and_false, hs, he, hlong', h1000, Option.map_some, hwn, h00, h20, h22, hz0, noTrace, Int.natCast_nonneg, hi']))
            | refine wpA_block ?_
            | (refine wpA_cond rfl (fun h => ?_) (fun h => ?_) <;> (try (cases h; done)))
            | (refine wpA_ret (fin_pure (.inl rfl) rfl (by simp only [go_sem, Nat.reduceLT, Nat.reduceEqDiff, Nat.reduceAdd, Nat.reduceSub, Nat.reduceMul, Nat.reduceLeDiff, reduceIte, reduceCtorEq, Int.lt_irrefl, Nat.reduceMod, Nat.reduceBEq, eq_self, false_and, and_false, hs, he, hlong', h1000, Option.map_some, hwn, h00, h20, h22, hz0, noTrace, Int.natCast_nonneg, hi']; rfl) ?_ (hW _)); (try simp only [go_sem, Nat.reduceLT, Nat.reduceEqDiff, Nat.reduceAdd, Nat.reduceSub, Nat.reduceMul, Nat.reduceLeDiff, reduceIte, reduceCtorEq, Int.lt_irrefl, Nat.reduceMod, Nat.reduceBEq, eq_self, false_and, and_false, hs, he, hlong', h1000, Option.map_some, hwn, h00, h20, h22, hz0, noTrace, Int.natCast_nonneg, hi']))
            | (refine wpA_ret (fin_pureM (.inl rfl) (by simp only [go_sem, Nat.reduceLT, Nat.reduceEqDiff, Nat.reduceAdd, Nat.reduceSub, Nat.reduceMul, Nat.reduceLeDiff, reduceIte, reduceCtorEq, Int.lt_irrefl, Nat.reduceMod, Nat.reduceBEq, eq_self, false_and, and_false]) (by simp only [go_sem, Nat.reduceLT, Nat.reduceEqDiff, Nat.reduceAdd, Nat.reduceSub, Nat.reduceMul, Nat.reduceLeDiff, reduceIte, reduceCtorEq, Int.lt_irrefl, Nat.reduceMod, Nat.reduceBEq, eq_self, false_and, and_false, hs, he, hlong', h1000, Option.map_some, hwn, h00, h20, h22, hz0, noTrace, Int.natCast_nonneg, hi']; rfl) ?_ (hW _)); (try simp only [go_sem, Nat.reduceLT, Nat.reduceEqDiff, Nat.reduceAdd, Nat.reduceSub, Nat.reduceMul, Nat.reduceLeDiff, reduceIte, reduceCtorEq, Int.lt_irrefl, Nat.reduceMod, Nat.reduceBEq, eq_self, false_and, and_false, hs, he, hlong', h1000, Option.map_some, hwn, h00, h20, h22, hz0, noTrace, Int.natCast_nonneg, hi']))
            | (refine ⟨_, [], [], PureE.call (haS) (by first | (simp; done) | (simp [hpF_add, hpF_lo]; done) | exact need_hp htop hn | exact need_hp2 htop hn), ?_⟩; (try simp only [go_sem, Nat.reduceLT, Nat.reduceEqDiff, Nat.reduceAdd, Nat.reduceSub, Nat.reduceMul, Nat.reduceLeDiff, reduceIte, reduceCtorEq, Int.lt_irrefl, Nat.reduceMod, Nat.reduceBEq, eq_self, false_and, and_false, hs, he, hlong', h1000, Option.map_some, hwn, h00, h20, h22, hz0, noTrace, Int.natCast_nonneg, hi']))
            | (refine ⟨_, _, [], PureE.toS (haS), by first | (simp; done) | (simp [hpF_add, hpF_lo]; done) | exact need_hp htop hn | exact need_hp2 htop hn, by simp, ?_⟩; (try simp only [go_sem, Nat.reduceLT, Nat.reduceEqDiff, Nat.reduceAdd, Nat.reduceSub, Nat.reduceMul, Nat.reduceLeDiff, reduceIte, reduceCtorEq, Int.lt_irrefl, Nat.reduceMod, Nat.reduceBEq, eq_self, false_and, and_false, hs, he, hlong', h1000, Option.map_some, hwn, h00, h20, h22, hz0, noTrace, Int.natCast_nonneg, hi']))
            | fail)
          refine ⟨wk_to (wk_kp [3, 20, 21, 22] [0] (by simp) (by simp) rfl) (by simp only [go_sem, Nat.reduceLT, Nat.reduceEqDiff, Nat.reduceAdd, Nat.reduceSub, Nat.reduceMul, Nat.reduceLeDiff, reduceIte, reduceCtorEq, Int.lt_irrefl, Nat.reduceMod, Nat.reduceBEq, eq_self, false_and, and_false, hW _,  hw]), ?_⟩
          exact ⟨by omega, hr, by omega, by omega⟩
        | true =>
          obtain ⟨m, X, hX, hsh⟩ := add_shape hr hnb.1 s.puts
          have hXl : X.length ≤ t.frames.length + 1 := by
            have := hsh.le
            rcases hsh.end_ with ⟨e, _⟩ | ⟨e, _⟩ <;> omega
          have ha : addF t now s.puts = (⟨X, now⟩, 0) := by
            unfold addF; rw [if_neg (by rw [hr]; simp), if_neg (by rw [hp, hnt]; simp; omega), hX, if_neg (by simp only []; omega)]
          have hst : growS t s = ⟨X, now⟩ := by
            unfold growS; rw [if_neg hlong, hlat, ha]; rfl
          have hrx : right ⟨X, now⟩ = true := hsh.right hr (by omega) (by omega) hp (Int.le_refl _) (by omega)
          have hry : right ⟨X, now + 1⟩ = true := hsh.right hr (by omega) (by omega) hp (by omega) (by omega)
          have hck := Check_spec ⟨X, now⟩
          rw [hrx, show errT true = 0 from rfl] at hck
          have hps := Pass_spec ⟨X, now⟩ (now + 1)
          rw [show passF ⟨X, now⟩ (now + 1) = (⟨X, now + 1⟩, 0) from by
            unfold passF; rw [if_neg (by rw [hrx]; simp), if_neg (by rw [timeOK_iff.2 (show 0 ≤ now + 1 ∧ now + 1 ≤ 1125899906842624 by omega)]; simp; omega)]] at hps
          have hat := At_spec ⟨X, now + 1⟩ now
          rw [hsh.at hry] at hat
          have hw1 : IntKind.i64.wrap (now + 1) = now + 1 := by rw [i64_id (by omega) (by omega)]
          have hnn : (now != now) = false := by simp
          have hll : ((s.puts.length : Int) != s.puts.length) = false := by simp
          rw [hst]
          rw [ha] at haS
          repeat' (first
            | refine wpA_seq ?_
            | refine wpA_skip ?_
            | (refine wpA_exit ?_)
            | (refine hK _ _ ?_; clear hK K)
            | (refine hK _ _ rfl ?_; clear hK K)
            | (refine wpA_reg hT hE fun K hK => ?_; simp only [go_sem, Nat.reduceLT, Nat.reduceEqDiff, Nat.reduceAdd, Nat.reduceSub, Nat.reduceMul, Nat.reduceLeDiff, reduceIte, reduceCtorEq, Int.lt_irrefl, Nat.reduceMod, Nat.reduceBEq, eq_self, false_and, and_false, hs, he, hlong', h1000, Option.map_some, hwn, hw1, h00, hnn, hll, Int.natCast_nonneg, hi'])
            | (refine wpA_drw hT hE hmix (by kernel_rfl) fun K hK => ?_; simp only [go_sem, Nat.reduceLT, Nat.reduceEqDiff, Nat.reduceAdd, Nat.reduceSub, Nat.reduceMul, Nat.reduceLeDiff, reduceIte, reduceCtorEq, Int.lt_irrefl, Nat.reduceMod, Nat.reduceBEq, eq_self, false_and, and_false, hs, he, hlong', h1000, Option.map_some, hwn, hw1, h00, hnn, hll, Int.natCast_nonneg, hi'])
            | (refine gd_t (fun h => ?_) (fun h => ?_) <;> (try simp only [h, go_sem, Nat.reduceLT, Nat.reduceEqDiff, Nat.reduceAdd, Nat.reduceSub, Nat.reduceMul, Nat.reduceLeDiff, reduceIte, reduceCtorEq, Int.lt_irrefl, Nat.reduceMod, Nat.reduceBEq, eq_self, false_and, and_false, hs, he, hlong', h1000, Option.map_some, hwn, hw1, h00, hnn, hll, Int.natCast_nonneg, hi']))
            | (refine gd_f (fun h => ?_) (fun h => ?_) <;> (try simp only [h, go_sem, Nat.reduceLT, Nat.reduceEqDiff, Nat.reduceAdd, Nat.reduceSub, Nat.reduceMul, Nat.reduceLeDiff, reduceIte, reduceCtorEq, Int.lt_irrefl, Nat.reduceMod, Nat.reduceBEq, eq_self, false_and, and_false, hs, he, hlong', h1000, Option.map_some, hwn, hw1, h00, hnn, hll, Int.natCast_nonneg, hi']))
            | refine wpA_block ?_
            | (refine wpA_cond rfl (fun h => ?_) (fun h => ?_) <;> (try (cases h; done)))
            | (refine wpA_ret (fin_pure (.inl rfl) rfl (by simp only [go_sem, Nat.reduceLT, Nat.reduceEqDiff, Nat.reduceAdd, Nat.reduceSub, Nat.reduceMul, Nat.reduceLeDiff, reduceIte, reduceCtorEq, Int.lt_irrefl, Nat.reduceMod, Nat.reduceBEq, eq_self, false_and, and_false, hs, he, hlong', h1000, Option.map_some, hwn, hw1, h00, hnn, hll, Int.natCast_nonneg, hi']; rfl) ?_ (hW _)); (try simp only [go_sem, Nat.reduceLT, Nat.reduceEqDiff, Nat.reduceAdd, Nat.reduceSub, Nat.reduceMul, Nat.reduceLeDiff, reduceIte, reduceCtorEq, Int.lt_irrefl, Nat.reduceMod, Nat.reduceBEq, eq_self, false_and, and_false, hs, he, hlong', h1000, Option.map_some, hwn, hw1, h00, hnn, hll, Int.natCast_nonneg, hi']))
            | (refine wpA_ret (fin_pureM (.inl rfl) (by simp only [go_sem, Nat.reduceLT, Nat.reduceEqDiff, Nat.reduceAdd, Nat.reduceSub, Nat.reduceMul, Nat.reduceLeDiff, reduceIte, reduceCtorEq, Int.lt_irrefl, Nat.reduceMod, Nat.reduceBEq, eq_self, false_and, and_false]) (by simp only [go_sem, Nat.reduceLT, Nat.reduceEqDiff, Nat.reduceAdd, Nat.reduceSub, Nat.reduceMul, Nat.reduceLeDiff, reduceIte, reduceCtorEq, Int.lt_irrefl, Nat.reduceMod, Nat.reduceBEq, eq_self, false_and, and_false, hs, he, hlong', h1000, Option.map_some, hwn, hw1, h00, hnn, hll, Int.natCast_nonneg, hi']; rfl) ?_ (hW _)); (try simp only [go_sem, Nat.reduceLT, Nat.reduceEqDiff, Nat.reduceAdd, Nat.reduceSub, Nat.reduceMul, Nat.reduceLeDiff, reduceIte, reduceCtorEq, Int.lt_irrefl, Nat.reduceMod, Nat.reduceBEq, eq_self, false_and, and_false, hs, he, hlong', h1000, Option.map_some, hwn, hw1, h00, hnn, hll, Int.natCast_nonneg, hi']))
            | (refine ⟨_, [], [], PureE.call (haS) (by first | (simp; done) | (simp [hpF_add, hpF_lo]; done) | exact need_hp htop hn | exact need_hp2 htop hn), ?_⟩; (try simp only [go_sem, Nat.reduceLT, Nat.reduceEqDiff, Nat.reduceAdd, Nat.reduceSub, Nat.reduceMul, Nat.reduceLeDiff, reduceIte, reduceCtorEq, Int.lt_irrefl, Nat.reduceMod, Nat.reduceBEq, eq_self, false_and, and_false, hs, he, hlong', h1000, Option.map_some, hwn, hw1, h00, hnn, hll, Int.natCast_nonneg, hi']))
            | (refine ⟨_, _, [], PureE.toS (haS), by first | (simp; done) | (simp [hpF_add, hpF_lo]; done) | exact need_hp htop hn | exact need_hp2 htop hn, by simp, ?_⟩; (try simp only [go_sem, Nat.reduceLT, Nat.reduceEqDiff, Nat.reduceAdd, Nat.reduceSub, Nat.reduceMul, Nat.reduceLeDiff, reduceIte, reduceCtorEq, Int.lt_irrefl, Nat.reduceMod, Nat.reduceBEq, eq_self, false_and, and_false, hs, he, hlong', h1000, Option.map_some, hwn, hw1, h00, hnn, hll, Int.natCast_nonneg, hi']))
            | (refine ⟨_, [], [], PureE.call (hck) (by first | (simp; done) | (simp [hpF_add, hpF_lo]; done) | exact need_hp htop hn | exact need_hp2 htop hn), ?_⟩; (try simp only [go_sem, Nat.reduceLT, Nat.reduceEqDiff, Nat.reduceAdd, Nat.reduceSub, Nat.reduceMul, Nat.reduceLeDiff, reduceIte, reduceCtorEq, Int.lt_irrefl, Nat.reduceMod, Nat.reduceBEq, eq_self, false_and, and_false, hs, he, hlong', h1000, Option.map_some, hwn, hw1, h00, hnn, hll, Int.natCast_nonneg, hi']))
            | (refine ⟨_, _, [], PureE.toS (hck), by first | (simp; done) | (simp [hpF_add, hpF_lo]; done) | exact need_hp htop hn | exact need_hp2 htop hn, by simp, ?_⟩; (try simp only [go_sem, Nat.reduceLT, Nat.reduceEqDiff, Nat.reduceAdd, Nat.reduceSub, Nat.reduceMul, Nat.reduceLeDiff, reduceIte, reduceCtorEq, Int.lt_irrefl, Nat.reduceMod, Nat.reduceBEq, eq_self, false_and, and_false, hs, he, hlong', h1000, Option.map_some, hwn, hw1, h00, hnn, hll, Int.natCast_nonneg, hi']))
            | (refine ⟨_, [], [], PureE.call (hps) (by first | (simp; done) | (simp [hpF_add, hpF_lo]; done) | exact need_hp htop hn | exact need_hp2 htop hn), ?_⟩; (try simp only [go_sem, Nat.reduceLT, Nat.reduceEqDiff, Nat.reduceAdd, Nat.reduceSub, Nat.reduceMul, Nat.reduceLeDiff, reduceIte, reduceCtorEq, Int.lt_irrefl, Nat.reduceMod, Nat.reduceBEq, eq_self, false_and, and_false, hs, he, hlong', h1000, Option.map_some, hwn, hw1, h00, hnn, hll, Int.natCast_nonneg, hi']))
            | (refine ⟨_, _, [], PureE.toS (hps), by first | (simp; done) | (simp [hpF_add, hpF_lo]; done) | exact need_hp htop hn | exact need_hp2 htop hn, by simp, ?_⟩; (try simp only [go_sem, Nat.reduceLT, Nat.reduceEqDiff, Nat.reduceAdd, Nat.reduceSub, Nat.reduceMul, Nat.reduceLeDiff, reduceIte, reduceCtorEq, Int.lt_irrefl, Nat.reduceMod, Nat.reduceBEq, eq_self, false_and, and_false, hs, he, hlong', h1000, Option.map_some, hwn, hw1, h00, hnn, hll, Int.natCast_nonneg, hi']))
            | (refine ⟨_, [], [], PureE.call (hat) (by first | (simp; done) | (simp [hpF_add, hpF_lo]; done) | exact need_hp htop hn | exact need_hp2 htop hn), ?_⟩; (try simp only [go_sem, Nat.reduceLT, Nat.reduceEqDiff, Nat.reduceAdd, Nat.reduceSub, Nat.reduceMul, Nat.reduceLeDiff, reduceIte, reduceCtorEq, Int.lt_irrefl, Nat.reduceMod, Nat.reduceBEq, eq_self, false_and, and_false, hs, he, hlong', h1000, Option.map_some, hwn, hw1, h00, hnn, hll, Int.natCast_nonneg, hi']))
            | (refine ⟨_, _, [], PureE.toS (hat), by first | (simp; done) | (simp [hpF_add, hpF_lo]; done) | exact need_hp htop hn | exact need_hp2 htop hn, by simp, ?_⟩; (try simp only [go_sem, Nat.reduceLT, Nat.reduceEqDiff, Nat.reduceAdd, Nat.reduceSub, Nat.reduceMul, Nat.reduceLeDiff, reduceIte, reduceCtorEq, Int.lt_irrefl, Nat.reduceMod, Nat.reduceBEq, eq_self, false_and, and_false, hs, he, hlong', h1000, Option.map_some, hwn, hw1, h00, hnn, hll, Int.natCast_nonneg, hi']))
            | fail)
          refine wpA_kp [3, 5, 7, 10, 20, 21, 22, 95, 96] [0, 1, 2] (by simp) (by simp) rfl fun K hK => ?_
          simp only [go_sem, Nat.reduceLT, Nat.reduceEqDiff, Nat.reduceAdd, Nat.reduceSub, Nat.reduceMul, Nat.reduceLeDiff, reduceIte, reduceCtorEq, Int.lt_irrefl, Nat.reduceMod, Nat.reduceBEq, eq_self, false_and, and_false, hW _]
          refine hK _ ?_; clear hK K
          have hpl := pic_len hp
          clear haS hck hps hat
          refine wpA_for s.puts.length (fun k => { tm := [(3, .ptr (b + 0) 0), (5, .ptr (b + 1) 0), (7, .ptr (b + 2) 0), (10, .sl (s.puts.map aPut)), (20, .sl (l.map aStep)), (21, .v (.int .i64 l.length)), (22, .v (.int .i64 i)), (95, .v (.int .i64 s.puts.length)), (96, .v (.int .i64 k))], F := F, L := [.blk 24 [.sl (t.frames.map aFrame), .v (.int .i64 t.fin)], .blk 47 [.v (.int .i64 s.after), .sl (s.puts.map aPut)], .blk 24 [.sl (X.map aFrame), .v (.int .i64 now)]], ds := [] }) (fun k => True) rfl trivial ?_ ?_
          · intro k hk _
            obtain ⟨q, hq, _, _⟩ := get_of_lt hk
            have hk' : ((k : Int) < s.puts.length) := by omega
            have hwk := wrap1 hk (by omega)
            repeat' (first
              | refine wpA_seq ?_
              | refine wpA_skip ?_
              | (refine wpA_exit ?_)
              | (refine hK _ _ ?_; clear hK K)
              | (refine hK _ _ rfl ?_; clear hK K)
              | (refine wpA_reg hT hE fun K hK => ?_; simp only [go_sem, Nat.reduceLT, Nat.reduceEqDiff, Nat.reduceAdd, Nat.reduceSub, Nat.reduceMul, Nat.reduceLeDiff, reduceIte, reduceCtorEq, Int.lt_irrefl, Nat.reduceMod, Nat.reduceBEq, eq_self, false_and, and_false, hq, Int.natCast_nonneg, hk'])
              | (refine wpA_drw hT hE hmix (by kernel_rfl) fun K hK => ?_; simp only [go_sem, Nat.reduceLT, Nat.reduceEqDiff, Nat.reduceAdd, Nat.reduceSub, Nat.reduceMul, Nat.reduceLeDiff, reduceIte, reduceCtorEq, Int.lt_irrefl, Nat.reduceMod, Nat.reduceBEq, eq_self, false_and, and_false, hq, Int.natCast_nonneg, hk'])
              | (refine gd_t (fun h => ?_) (fun h => ?_) <;> (try simp only [h, go_sem, Nat.reduceLT, Nat.reduceEqDiff, Nat.reduceAdd, Nat.reduceSub, Nat.reduceMul, Nat.reduceLeDiff, reduceIte, reduceCtorEq, Int.lt_irrefl, Nat.reduceMod, Nat.reduceBEq, eq_self, false_and, and_false, hq, Int.natCast_nonneg, hk']))
              | (refine gd_f (fun h => ?_) (fun h => ?_) <;> (try simp only [h, go_sem, Nat.reduceLT, Nat.reduceEqDiff, Nat.reduceAdd, Nat.reduceSub, Nat.reduceMul, Nat.reduceLeDiff, reduceIte, reduceCtorEq, Int.lt_irrefl, Nat.reduceMod, Nat.reduceBEq, eq_self, false_and, and_false, hq, Int.natCast_nonneg, hk']))
              | refine wpA_block ?_
              | (refine wpA_cond rfl (fun h => ?_) (fun h => ?_) <;> (try (cases h; done)))
              | (refine wpA_ret (fin_pure (.inl rfl) rfl (by simp only [go_sem, Nat.reduceLT, Nat.reduceEqDiff, Nat.reduceAdd, Nat.reduceSub, Nat.reduceMul, Nat.reduceLeDiff, reduceIte, reduceCtorEq, Int.lt_irrefl, Nat.reduceMod, Nat.reduceBEq, eq_self, false_and, and_false, hq, Int.natCast_nonneg, hk']; rfl) ?_ (hW _)); (try simp only [go_sem, Nat.reduceLT, Nat.reduceEqDiff, Nat.reduceAdd, Nat.reduceSub, Nat.reduceMul, Nat.reduceLeDiff, reduceIte, reduceCtorEq, Int.lt_irrefl, Nat.reduceMod, Nat.reduceBEq, eq_self, false_and, and_false, hq, Int.natCast_nonneg, hk']))
              | (refine wpA_ret (fin_pureM (.inl rfl) (by simp only [go_sem, Nat.reduceLT, Nat.reduceEqDiff, Nat.reduceAdd, Nat.reduceSub, Nat.reduceMul, Nat.reduceLeDiff, reduceIte, reduceCtorEq, Int.lt_irrefl, Nat.reduceMod, Nat.reduceBEq, eq_self, false_and, and_false]) (by simp only [go_sem, Nat.reduceLT, Nat.reduceEqDiff, Nat.reduceAdd, Nat.reduceSub, Nat.reduceMul, Nat.reduceLeDiff, reduceIte, reduceCtorEq, Int.lt_irrefl, Nat.reduceMod, Nat.reduceBEq, eq_self, false_and, and_false, hq, Int.natCast_nonneg, hk']; rfl) ?_ (hW _)); (try simp only [go_sem, Nat.reduceLT, Nat.reduceEqDiff, Nat.reduceAdd, Nat.reduceSub, Nat.reduceMul, Nat.reduceLeDiff, reduceIte, reduceCtorEq, Int.lt_irrefl, Nat.reduceMod, Nat.reduceBEq, eq_self, false_and, and_false, hq, Int.natCast_nonneg, hk']))
              | fail)
            all_goals first
              | (simp_all; done)
              | skip
            refine ⟨wk_to (wk_kp [3, 5, 7, 10, 20, 21, 22, 95, 96] [0, 1, 2] (by simp) (by simp) rfl) (by simp only [go_sem, Nat.reduceLT, Nat.reduceEqDiff, Nat.reduceAdd, Nat.reduceSub, Nat.reduceMul, Nat.reduceLeDiff, reduceIte, reduceCtorEq, Int.lt_irrefl, Nat.reduceMod, Nat.reduceBEq, eq_self, false_and, and_false, hW _,  hwk]), ?_⟩
            trivial
          · intro _
            have hkk : ¬ ((s.puts.length : Int) < s.puts.length) := by omega
            repeat' (first
              | refine wpA_seq ?_
              | refine wpA_skip ?_
              | (refine wpA_exit ?_)
              | (refine hK _ _ ?_; clear hK K)
              | (refine hK _ _ rfl ?_; clear hK K)
              | (refine wpA_reg hT hE fun K hK => ?_; simp only [go_sem, Nat.reduceLT, Nat.reduceEqDiff, Nat.reduceAdd, Nat.reduceSub, Nat.reduceMul, Nat.reduceLeDiff, reduceIte, reduceCtorEq, Int.lt_irrefl, Nat.reduceMod, Nat.reduceBEq, eq_self, false_and, and_false, hkk])
              | (refine wpA_drw hT hE hmix (by kernel_rfl) fun K hK => ?_; simp only [go_sem, Nat.reduceLT, Nat.reduceEqDiff, Nat.reduceAdd, Nat.reduceSub, Nat.reduceMul, Nat.reduceLeDiff, reduceIte, reduceCtorEq, Int.lt_irrefl, Nat.reduceMod, Nat.reduceBEq, eq_self, false_and, and_false, hkk])
              | (refine gd_t (fun h => ?_) (fun h => ?_) <;> (try simp only [h, go_sem, Nat.reduceLT, Nat.reduceEqDiff, Nat.reduceAdd, Nat.reduceSub, Nat.reduceMul, Nat.reduceLeDiff, reduceIte, reduceCtorEq, Int.lt_irrefl, Nat.reduceMod, Nat.reduceBEq, eq_self, false_and, and_false, hkk]))
              | (refine gd_f (fun h => ?_) (fun h => ?_) <;> (try simp only [h, go_sem, Nat.reduceLT, Nat.reduceEqDiff, Nat.reduceAdd, Nat.reduceSub, Nat.reduceMul, Nat.reduceLeDiff, reduceIte, reduceCtorEq, Int.lt_irrefl, Nat.reduceMod, Nat.reduceBEq, eq_self, false_and, and_false, hkk]))
              | refine wpA_block ?_
              | (refine wpA_cond rfl (fun h => ?_) (fun h => ?_) <;> (try (cases h; done)))
              | (refine wpA_ret (fin_pure (.inl rfl) rfl (by simp only [go_sem, Nat.reduceLT, Nat.reduceEqDiff, Nat.reduceAdd, Nat.reduceSub, Nat.reduceMul, Nat.reduceLeDiff, reduceIte, reduceCtorEq, Int.lt_irrefl, Nat.reduceMod, Nat.reduceBEq, eq_self, false_and, and_false, hkk]; rfl) ?_ (hW _)); (try simp only [go_sem, Nat.reduceLT, Nat.reduceEqDiff, Nat.reduceAdd, Nat.reduceSub, Nat.reduceMul, Nat.reduceLeDiff, reduceIte, reduceCtorEq, Int.lt_irrefl, Nat.reduceMod, Nat.reduceBEq, eq_self, false_and, and_false, hkk]))
              | (refine wpA_ret (fin_pureM (.inl rfl) (by simp only [go_sem, Nat.reduceLT, Nat.reduceEqDiff, Nat.reduceAdd, Nat.reduceSub, Nat.reduceMul, Nat.reduceLeDiff, reduceIte, reduceCtorEq, Int.lt_irrefl, Nat.reduceMod, Nat.reduceBEq, eq_self, false_and, and_false]) (by simp only [go_sem, Nat.reduceLT, Nat.reduceEqDiff, Nat.reduceAdd, Nat.reduceSub, Nat.reduceMul, Nat.reduceLeDiff, reduceIte, reduceCtorEq, Int.lt_irrefl, Nat.reduceMod, Nat.reduceBEq, eq_self, false_and, and_false, hkk]; rfl) ?_ (hW _)); (try simp only [go_sem, Nat.reduceLT, Nat.reduceEqDiff, Nat.reduceAdd, Nat.reduceSub, Nat.reduceMul, Nat.reduceLeDiff, reduceIte, reduceCtorEq, Int.lt_irrefl, Nat.reduceMod, Nat.reduceBEq, eq_self, false_and, and_false, hkk]))
              | fail)
            refine wpA_kp [3, 7, 13, 20, 21, 22] [0, 2] (by simp) (by simp) rfl fun K hK => ?_
            simp only [go_sem, Nat.reduceLT, Nat.reduceEqDiff, Nat.reduceAdd, Nat.reduceSub, Nat.reduceMul, Nat.reduceLeDiff, reduceIte, reduceCtorEq, Int.lt_irrefl, Nat.reduceMod, Nat.reduceBEq, eq_self, false_and, and_false, hW _]
            refine hK _ ?_; clear hK K
            have hft : timeOK t.fin = true := timeOK_iff.2 (by omega)
            obtain ⟨n16, hn16⟩ : ∃ n : Nat, n = 16 := ⟨_, rfl⟩
            refine wpA_for n16 (fun k => { tm := [(3, .ptr (b + 0) 0), (7, .ptr (b + 1) 0), (13, .v (.int .i64 (1 + (k : Int)))), (20, .sl (l.map aStep)), (21, .v (.int .i64 l.length)), (22, .v (.int .i64 i))], F := F, L := [.blk 24 [.sl (t.frames.map aFrame), .v (.int .i64 t.fin)], .blk 24 [.sl (X.map aFrame), .v (.int .i64 now)]], ds := [] }) (fun k => True) (by simp) trivial ?_ ?_
            · intro k hk _
              have hk' : (1 + (k : Int)) ≤ 16 := by omega
              have hwk : IntKind.i64.wrap (1 + (k : Int) + 1) = 1 + ((k + 1 : Nat) : Int) := by rw [i64_id (by omega) (by omega)]; omega
              have r1 := Ran_spec t (1 + (k : Int)) 0 t.fin
              have r2 := Ran_spec ⟨X, now⟩ (1 + (k : Int)) 0 t.fin
              rw [longF_is hr timeOKz hft hrf.1, hsh.share hr hnb.1] at r1
              rw [longF_is hrx timeOKz hft hrf.1] at r2
              simp only [] at r2
              generalize sumTo (share (fun p => p.vcpu == 1 + (k : Int)) ⟨X, now⟩ 0 t.fin) X.length = A at r1 r2
              have hAA : (A != A) = false := by simp
              repeat' (first
                | refine wpA_seq ?_
                | refine wpA_skip ?_
                | (refine wpA_exit ?_)
                | (refine hK _ _ ?_; clear hK K)
                | (refine hK _ _ rfl ?_; clear hK K)
                | (refine wpA_reg hT hE fun K hK => ?_; simp only [go_sem, Nat.reduceLT, Nat.reduceEqDiff, Nat.reduceAdd, Nat.reduceSub, Nat.reduceMul, Nat.reduceLeDiff, reduceIte, reduceCtorEq, Int.lt_irrefl, Nat.reduceMod, Nat.reduceBEq, eq_self, false_and, and_false, hk', h00, hAA])
                | (refine wpA_drw hT hE hmix (by kernel_rfl) fun K hK => ?_; simp only [go_sem, Nat.reduceLT, Nat.reduceEqDiff, Nat.reduceAdd, Nat.reduceSub, Nat.reduceMul, Nat.reduceLeDiff, reduceIte, reduceCtorEq, Int.lt_irrefl, Nat.reduceMod, Nat.reduceBEq, eq_self, false_and, and_false, hk', h00, hAA])
                | (refine gd_t (fun h => ?_) (fun h => ?_) <;> (try simp only [h, go_sem, Nat.reduceLT, Nat.reduceEqDiff, Nat.reduceAdd, Nat.reduceSub, Nat.reduceMul, Nat.reduceLeDiff, reduceIte, reduceCtorEq, Int.lt_irrefl, Nat.reduceMod, Nat.reduceBEq, eq_self, false_and, and_false, hk', h00, hAA]))
                | (refine gd_f (fun h => ?_) (fun h => ?_) <;> (try simp only [h, go_sem, Nat.reduceLT, Nat.reduceEqDiff, Nat.reduceAdd, Nat.reduceSub, Nat.reduceMul, Nat.reduceLeDiff, reduceIte, reduceCtorEq, Int.lt_irrefl, Nat.reduceMod, Nat.reduceBEq, eq_self, false_and, and_false, hk', h00, hAA]))
                | refine wpA_block ?_
                | (refine wpA_cond rfl (fun h => ?_) (fun h => ?_) <;> (try (cases h; done)))
                | (refine wpA_ret (fin_pure (.inl rfl) rfl (by simp only [go_sem, Nat.reduceLT, Nat.reduceEqDiff, Nat.reduceAdd, Nat.reduceSub, Nat.reduceMul, Nat.reduceLeDiff, reduceIte, reduceCtorEq, Int.lt_irrefl, Nat.reduceMod, Nat.reduceBEq, eq_self, false_and, and_false, hk', h00, hAA]; rfl) ?_ (hW _)); (try simp only [go_sem, Nat.reduceLT, Nat.reduceEqDiff, Nat.reduceAdd, Nat.reduceSub, Nat.reduceMul, Nat.reduceLeDiff, reduceIte, reduceCtorEq, Int.lt_irrefl, Nat.reduceMod, Nat.reduceBEq, eq_self, false_and, and_false, hk', h00, hAA]))
                | (refine wpA_ret (fin_pureM (.inl rfl) (by simp only [go_sem, Nat.reduceLT, Nat.reduceEqDiff, Nat.reduceAdd, Nat.reduceSub, Nat.reduceMul, Nat.reduceLeDiff, reduceIte, reduceCtorEq, Int.lt_irrefl, Nat.reduceMod, Nat.reduceBEq, eq_self, false_and, and_false]) (by simp only [go_sem, Nat.reduceLT, Nat.reduceEqDiff, Nat.reduceAdd, Nat.reduceSub, Nat.reduceMul, Nat.reduceLeDiff, reduceIte, reduceCtorEq, Int.lt_irrefl, Nat.reduceMod, Nat.reduceBEq, eq_self, false_and, and_false, hk', h00, hAA]; rfl) ?_ (hW _)); (try simp only [go_sem, Nat.reduceLT, Nat.reduceEqDiff, Nat.reduceAdd, Nat.reduceSub, Nat.reduceMul, Nat.reduceLeDiff, reduceIte, reduceCtorEq, Int.lt_irrefl, Nat.reduceMod, Nat.reduceBEq, eq_self, false_and, and_false, hk', h00, hAA]))
                | (refine ⟨_, [], [], PureE.call (r1) (by first | (simp; done) | (simp [hpF_add, hpF_lo]; done) | exact need_hp htop hn | exact need_hp2 htop hn), ?_⟩; (try simp only [go_sem, Nat.reduceLT, Nat.reduceEqDiff, Nat.reduceAdd, Nat.reduceSub, Nat.reduceMul, Nat.reduceLeDiff, reduceIte, reduceCtorEq, Int.lt_irrefl, Nat.reduceMod, Nat.reduceBEq, eq_self, false_and, and_false, hk', h00, hAA]))
                | (refine ⟨_, _, [], PureE.toS (r1), by first | (simp; done) | (simp [hpF_add, hpF_lo]; done) | exact need_hp htop hn | exact need_hp2 htop hn, by simp, ?_⟩; (try simp only [go_sem, Nat.reduceLT, Nat.reduceEqDiff, Nat.reduceAdd, Nat.reduceSub, Nat.reduceMul, Nat.reduceLeDiff, reduceIte, reduceCtorEq, Int.lt_irrefl, Nat.reduceMod, Nat.reduceBEq, eq_self, false_and, and_false, hk', h00, hAA]))
                | (refine ⟨_, [], [], PureE.call (r2) (by first | (simp; done) | (simp [hpF_add, hpF_lo]; done) | exact need_hp htop hn | exact need_hp2 htop hn), ?_⟩; (try simp only [go_sem, Nat.reduceLT, Nat.reduceEqDiff, Nat.reduceAdd, Nat.reduceSub, Nat.reduceMul, Nat.reduceLeDiff, reduceIte, reduceCtorEq, Int.lt_irrefl, Nat.reduceMod, Nat.reduceBEq, eq_self, false_and, and_false, hk', h00, hAA]))
                | (refine ⟨_, _, [], PureE.toS (r2), by first | (simp; done) | (simp [hpF_add, hpF_lo]; done) | exact need_hp htop hn | exact need_hp2 htop hn, by simp, ?_⟩; (try simp only [go_sem, Nat.reduceLT, Nat.reduceEqDiff, Nat.reduceAdd, Nat.reduceSub, Nat.reduceMul, Nat.reduceLeDiff, reduceIte, reduceCtorEq, Int.lt_irrefl, Nat.reduceMod, Nat.reduceBEq, eq_self, false_and, and_false, hk', h00, hAA]))
                | fail)
              refine ⟨wk_to (wk_kp [3, 7, 13, 20, 21, 22] [0, 1] (by simp) (by simp) rfl) (by simp only [go_sem, Nat.reduceLT, Nat.reduceEqDiff, Nat.reduceAdd, Nat.reduceSub, Nat.reduceMul, Nat.reduceLeDiff, reduceIte, reduceCtorEq, Int.lt_irrefl, Nat.reduceMod, Nat.reduceBEq, eq_self, false_and, and_false, hW _,  hwk]), ?_⟩
              trivial
            · intro _
              have hkk : ¬ (1 + (n16 : Int)) ≤ 16 := by omega
              repeat' (first
                | refine wpA_seq ?_
                | refine wpA_skip ?_
                | (refine wpA_exit ?_)
                | (refine hK _ _ ?_; clear hK K)
                | (refine hK _ _ rfl ?_; clear hK K)
                | (refine wpA_reg hT hE fun K hK => ?_; simp only [go_sem, Nat.reduceLT, Nat.reduceEqDiff, Nat.reduceAdd, Nat.reduceSub, Nat.reduceMul, Nat.reduceLeDiff, reduceIte, reduceCtorEq, Int.lt_irrefl, Nat.reduceMod, Nat.reduceBEq, eq_self, false_and, and_false, hkk])
                | (refine wpA_drw hT hE hmix (by kernel_rfl) fun K hK => ?_; simp only [go_sem, Nat.reduceLT, Nat.reduceEqDiff, Nat.reduceAdd, Nat.reduceSub, Nat.reduceMul, Nat.reduceLeDiff, reduceIte, reduceCtorEq, Int.lt_irrefl, Nat.reduceMod, Nat.reduceBEq, eq_self, false_and, and_false, hkk])
                | (refine gd_t (fun h => ?_) (fun h => ?_) <;> (try simp only [h, go_sem, Nat.reduceLT, Nat.reduceEqDiff, Nat.reduceAdd, Nat.reduceSub, Nat.reduceMul, Nat.reduceLeDiff, reduceIte, reduceCtorEq, Int.lt_irrefl, Nat.reduceMod, Nat.reduceBEq, eq_self, false_and, and_false, hkk]))
                | (refine gd_f (fun h => ?_) (fun h => ?_) <;> (try simp only [h, go_sem, Nat.reduceLT, Nat.reduceEqDiff, Nat.reduceAdd, Nat.reduceSub, Nat.reduceMul, Nat.reduceLeDiff, reduceIte, reduceCtorEq, Int.lt_irrefl, Nat.reduceMod, Nat.reduceBEq, eq_self, false_and, and_false, hkk]))
                | refine wpA_block ?_
                | (refine wpA_cond rfl (fun h => ?_) (fun h => ?_) <;> (try (cases h; done)))
                | (refine wpA_ret (fin_pure (.inl rfl) rfl (by simp only [go_sem, Nat.reduceLT, Nat.reduceEqDiff, Nat.reduceAdd, Nat.reduceSub, Nat.reduceMul, Nat.reduceLeDiff, reduceIte, reduceCtorEq, Int.lt_irrefl, Nat.reduceMod, Nat.reduceBEq, eq_self, false_and, and_false, hkk]; rfl) ?_ (hW _)); (try simp only [go_sem, Nat.reduceLT, Nat.reduceEqDiff, Nat.reduceAdd, Nat.reduceSub, Nat.reduceMul, Nat.reduceLeDiff, reduceIte, reduceCtorEq, Int.lt_irrefl, Nat.reduceMod, Nat.reduceBEq, eq_self, false_and, and_false, hkk]))
                | (refine wpA_ret (fin_pureM (.inl rfl) (by simp only [go_sem, Nat.reduceLT, Nat.reduceEqDiff, Nat.reduceAdd, Nat.reduceSub, Nat.reduceMul, Nat.reduceLeDiff, reduceIte, reduceCtorEq, Int.lt_irrefl, Nat.reduceMod, Nat.reduceBEq, eq_self, false_and, and_false]) (by simp only [go_sem, Nat.reduceLT, Nat.reduceEqDiff, Nat.reduceAdd, Nat.reduceSub, Nat.reduceMul, Nat.reduceLeDiff, reduceIte, reduceCtorEq, Int.lt_irrefl, Nat.reduceMod, Nat.reduceBEq, eq_self, false_and, and_false, hkk]; rfl) ?_ (hW _)); (try simp only [go_sem, Nat.reduceLT, Nat.reduceEqDiff, Nat.reduceAdd, Nat.reduceSub, Nat.reduceMul, Nat.reduceLeDiff, reduceIte, reduceCtorEq, Int.lt_irrefl, Nat.reduceMod, Nat.reduceBEq, eq_self, false_and, and_false, hkk]))
                | fail)
              refine ⟨wk_to (wk_kp [3, 20, 21, 22] [0] (by simp) (by simp) rfl) (by simp only [go_sem, Nat.reduceLT, Nat.reduceEqDiff, Nat.reduceAdd, Nat.reduceSub, Nat.reduceMul, Nat.reduceLeDiff, reduceIte, reduceCtorEq, Int.lt_irrefl, Nat.reduceMod, Nat.reduceBEq, eq_self, false_and, and_false, hW _,  hw]), ?_⟩
              exact ⟨by omega, hrx, by simp only []; omega, by simp only []; omega⟩
  · intro _
    have hi' : ¬ ((l.length : Int) < l.length) := by omega
    repeat' (first
      | refine wpA_seq ?_
      | refine wpA_skip ?_
      | (refine wpA_exit ?_)
      | (refine hK _ _ ?_; clear hK K)
      | (refine hK _ _ rfl ?_; clear hK K)
      | (refine wpA_reg hT hE fun K hK => ?_; simp only [go_sem, Nat.reduceLT, Nat.reduceEqDiff, Nat.reduceAdd, Nat.reduceSub, Nat.reduceMul, Nat.reduceLeDiff, reduceIte, reduceCtorEq, Int.lt_irrefl, Nat.reduceMod, Nat.reduceBEq, eq_self, false_and, and_false, hi'])
      | (refine wpA_drw hT hE hmix (by kernel_rfl) fun K hK => ?_; simp only [go_sem, Nat.reduceLT, Nat.reduceEqDiff, Nat.reduceAdd, Nat.reduceSub, Nat.reduceMul, Nat.reduceLeDiff, reduceIte, reduceCtorEq, Int.lt_irrefl, Nat.reduceMod, Nat.reduceBEq, eq_self, false_and, and_false, hi'])
      | (refine gd_t (fun h => ?_) (fun h => ?_) <;> (try simp only [h, go_sem, Nat.reduceLT, Nat.reduceEqDiff, Nat.reduceAdd, Nat.reduceSub, Nat.reduceMul, Nat.reduceLeDiff, reduceIte, reduceCtorEq, Int.lt_irrefl, Nat.reduceMod, Nat.reduceBEq, eq_self, false_and, and_false, hi']))
      | (refine gd_f (fun h => ?_) (fun h => ?_) <;> (try simp only [h, go_sem, Nat.reduceLT, Nat.reduceEqDiff, Nat.reduceAdd, Nat.reduceSub, Nat.reduceMul, Nat.reduceLeDiff, reduceIte, reduceCtorEq, Int.lt_irrefl, Nat.reduceMod, Nat.reduceBEq, eq_self, false_and, and_false, hi']))
      | refine wpA_block ?_
      | (refine wpA_cond rfl (fun h => ?_) (fun h => ?_) <;> (try (cases h; done)))
      | (refine wpA_ret (fin_pure (.inl rfl) rfl (by simp only [go_sem, Nat.reduceLT, Nat.reduceEqDiff, Nat.reduceAdd, Nat.reduceSub, Nat.reduceMul, Nat.reduceLeDiff, reduceIte, reduceCtorEq, Int.lt_irrefl, Nat.reduceMod, Nat.reduceBEq, eq_self, false_and, and_false, hi']; rfl) ?_ (hW _)); (try simp only [go_sem, Nat.reduceLT, Nat.reduceEqDiff, Nat.reduceAdd, Nat.reduceSub, Nat.reduceMul, Nat.reduceLeDiff, reduceIte, reduceCtorEq, Int.lt_irrefl, Nat.reduceMod, Nat.reduceBEq, eq_self, false_and, and_false, hi']))
      | (refine wpA_ret (fin_pureM (.inl rfl) (by simp only [go_sem, Nat.reduceLT, Nat.reduceEqDiff, Nat.reduceAdd, Nat.reduceSub, Nat.reduceMul, Nat.reduceLeDiff, reduceIte, reduceCtorEq, Int.lt_irrefl, Nat.reduceMod, Nat.reduceBEq, eq_self, false_and, and_false]) (by simp only [go_sem, Nat.reduceLT, Nat.reduceEqDiff, Nat.reduceAdd, Nat.reduceSub, Nat.reduceMul, Nat.reduceLeDiff, reduceIte, reduceCtorEq, Int.lt_irrefl, Nat.reduceMod, Nat.reduceBEq, eq_self, false_and, and_false, hi']; rfl) ?_ (hW _)); (try simp only [go_sem, Nat.reduceLT, Nat.reduceEqDiff, Nat.reduceAdd, Nat.reduceSub, Nat.reduceMul, Nat.reduceLeDiff, reduceIte, reduceCtorEq, Int.lt_irrefl, Nat.reduceMod, Nat.reduceBEq, eq_self, false_and, and_false, hi']))
      | fail)
end Go.Proofs.Ythlmfkeeneeaoaa

namespace Go.Proofs.Ythlmfkeeneeaoaa
open Go Go.Av Go.ChangeShapes Go.WideShapes Go.ChangeAt Go.RowKit

theorem rdStep (W : World) : Reads Try.prog W 47 aStep (fun _ => True) :=
  reads_struct2 (fun a b => (⟨a, b⟩ : Step)) aStep _ Try.underlying47 ⟨rfl, by kernel_rfl, by kernel_rfl⟩ (rdI64 W) (rdPuts W) (fun _ _ => rfl) (fun _ _ _ _ => trivial)
theorem rdSteps (W : World) : Reads Try.prog W 45 (fun l : List Step => .sl (l.map aStep)) (fun _ => True) := by
  intro H enc spare held fuel cs x h
  obtain ⟨l, _, hl⟩ := reads_slice Try.underlying45 (by decide +kernel) (rdStep W) H enc spare held fuel cs x h
  exact ⟨l, trivial, hl⟩

namespace traceGrows
set_option maxRecDepth 100000 in
theorem lifted (os : Os) (started : os.Started) (H : Type) (enc : TypeId × Value → H) :
    ReturnsInHanded {} Try.checked os 5 .any (Rows.traceGrowsSpec.pre6 enc Try.prog Try.f5 Rows.traceGrowsRow.domain false) (Rows.traceGrowsSpec.post enc Try.prog Try.f5 false true false false) := by
  refine returnsInHanded_of_change (C := Try.checked) own started (by kernel_rfl) Try.func5
    (ChangeSpec.witness6 (enc := enc) (C := Try.checked) false ⟨#[], #[.slice none 0 0], []⟩ 8 (by kernel_rfl) (by kernel_rfl) (by kernel_rfl) (by kernel_rfl)) ?_
  intro W base args ds gs before hval0 hW hcnd _
  have hval : ∀ (j : Nat) t v, Try.f5.params[j]? = some t → args[j]? = some v → Value.okWide Try.prog W .any base t v := hval0
  have hW' := hW
  obtain ⟨p, q, hA0, hV, rfl, hfz, hnd⟩ := hW
  have hA : DataW.TrodAll enc Try.prog W 0 (fun _ => true) true Try.f5.params.toList args.toList ds p := hA0
  rw [Try.params5] at hA hval
  obtain ⟨v0, vs0, d0, ds0, p0, q0, hargs, rfl, rfl, ⟨n0, h0⟩, r0⟩ := trodAll_cons hA
  obtain ⟨rfl, rfl, rfl⟩ := trodAll_nil r0
  obtain rfl : args = #[v0] := by cases args; simp_all
  obtain ⟨l, _, rt⟩ := rdSteps W H enc _ _ _ _ _ h0
  obtain ⟨a2, l2, c2, rfl⟩ := okWide_slice Try.underlying45 (hval 0 45 v0 rfl rfl)
  have e0 := rel_one rfl rt
  have hc := (TraceGrows_walk l (fun _ => none) 0 (by simp)).2.2 (topCx W) [_] (topHeap W) (fun _ _ => rfl) ⟨_, _, rfl, e0, rfl⟩
  refine hc.mono ?_
  rintro e W' ⟨c', y, rfl, rfl, hH, hr, hle⟩
  obtain ⟨rfl, _⟩ := hr
  refine ⟨_, rfl, post_law hlaid hmaps hslices (by rw [Try.params5]; decide +kernel) hW' hle Try.underlying4 (by kernel_rfl) rfl (fun hg => by rw [hg]; rfl)⟩

theorem over : Rows.traceGrowsRow.holds Try.pinned (OpenSpec.ofChange Rows.traceGrowsSpec) :=
  OpenClaim.holds_of_wide 5 Try.f5 rfl rfl rfl rfl rfl rfl rfl ⟨rfl, rfl, rfl, rfl, rfl⟩ rfl rfl rfl rfl rfl (by kernel_rfl) Try.func5 (by kernel_rfl)
    (of_decide_eq_true (by kernel_rfl)) (by unfold Func.isWrapper; first | (rw [if_pos (by decide +kernel)]; kernel_rfl) | (rw [if_neg (by decide +kernel)]; exact ⟨rfl, rfl⟩))
    (fun os started H enc _ => lifted os started H enc)
theorem proved : Rows.TraceGrowsSaid := over
end traceGrows
end Go.Proofs.Ythlmfkeeneeaoaa
