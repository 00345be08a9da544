/- The law BuildMakes answers true for every query, every input and every numbers, and its arguments read as they read before: no condition. Part 5 of 7. -/
import Derived.Test.YtdelcbejcdpmiaaGreatCm4
/- Greats; the steps of a plan: plan.steps = ref22.Steps. -/
namespace Go.Pv

def greatQ (q : Query) : Bool := decide (70 < q.arg.length) || decide (70 < q.where_.length) || decide (10 < q.sources.length)
theorem ref04_Great (N n : Nat) (c : List V) : call cc (N + 1) n_ref04_Great [.sl n c] = some (.bool (decide (70 < n))) := by
  rw [F_ref04_Great]
  by_cases h : 70 < n
  · rw [decide_eq_true h, decide_eq_true (show (n : Int) > 70 by omega)]; rfl
  · rw [decide_eq_false h, decide_eq_false (show ¬ (n : Int) > 70 by omega)]; rfl
theorem ref08_Great (q : Query) (N : Nat) : call cc (N + 2) n_ref08_Great [.agg (encQ q)] = some (.bool (greatQ q)) := by
  unfold encQ
  rw [F_ref08_Great]
  simp only [ref04_Great, Option.bind_some, okRes1, okComp_bool, cells_bool, cellAt_zero, toB_bool, cond_true]
  have e : decide ((q.sources.length : Int) > 10) = decide (10 < q.sources.length) := by
    by_cases h : 10 < q.sources.length
    · rw [decide_eq_true h, decide_eq_true (by omega)]
    · rw [decide_eq_false h, decide_eq_false (by omega)]
  rw [e]
  unfold greatQ
  cases decide (70 < q.arg.length) <;> cases decide (70 < q.where_.length) <;> cases decide (10 < q.sources.length) <;> rfl

def stepB (w b j t : Bool) (k : Nat) : Bool := if k = 3 then w else if k = 5 then b else if k = 7 then !j else if k = 8 then j else if k = 10 then t else decide (1 ≤ k ∧ k ≤ 10)
def qStep (q : Query) : Nat → Bool := stepB (decide (0 < q.where_.length)) q.byKey q.join (q.late == 2)
def u8s (l : List Nat) : List V := l.map fun k : Nat => V.int .u8 (k : Int)
def steps (q : Query) : List Nat := (List.range' 1 10).filter (qStep q)
theorem plan_steps (q : Query) (N : Nat) : call cc (N + 1) n_plan_steps [.agg (encQ q)] = some (.sl (steps q).length (u8s (steps q))) := by
  unfold encQ
  rw [F_plan_steps]
  have e : decide ((q.where_.length : Int) > 0) = decide (0 < q.where_.length) := by
    by_cases h : 0 < q.where_.length
    · rw [decide_eq_true h, decide_eq_true (by omega)]
    · rw [decide_eq_false h, decide_eq_false (by omega)]
  rw [e]
  unfold steps qStep
  cases decide (0 < q.where_.length) <;> cases q.byKey <;> cases q.join <;> cases q.late == 2 <;> rfl
theorem ref22_Has (q : Query) (k : Nat) (N : Nat) : call cc (N + 1) n_ref22_Has [.agg (encQ q), .int .u8 (k : Int)] = some (.bool (qStep q k)) := by
  unfold encQ
  rw [F_ref22_Has]
  have e : decide ((q.where_.length : Int) > 0) = decide (0 < q.where_.length) := by
    by_cases h : 0 < q.where_.length
    · rw [decide_eq_true h, decide_eq_true (by omega)]
    · rw [decide_eq_false h, decide_eq_false (by omega)]
  rw [e]
  unfold qStep stepB
  simp only [cond_beq]
  by_cases h3 : k = 3
  · subst h3; simp; cases q.where_ <;> rfl
  by_cases h5 : k = 5
  · subst h5; simp; cases q.byKey <;> rfl
  by_cases h7 : k = 7
  · subst h7; simp; cases q.join <;> rfl
  by_cases h8 : k = 8
  · subst h8; simp; cases q.join <;> rfl
  by_cases h10 : k = 10
  · subst h10
    by_cases hl : q.late = 2 <;> simp [hl]
  rw [if_neg (by omega), if_neg (by omega), if_neg (by omega), if_neg (by omega), if_neg (by omega), if_neg h3, if_neg h5, if_neg h7, if_neg h8, if_neg h10]
  simp only [Bool.cond_decide]
  repeat' split
  all_goals (congr 2; symm; simp only [decide_eq_true_eq, decide_eq_false_iff_not]; omega)
theorem ref22_loop (q : Query) : ∀ (m k : Nat) (pre : List Nat), k + m = 11 → pre.length ≤ k → Ev (fun N => S_ref22_Steps_3 N pre.length (k : Int) q.agg q.arg.length (encNodes q.arg) q.sources.length (ints q.sources) q.join q.where_.length (encNodes q.where_) q.win.kind q.win.size q.win.every q.byKey q.late (u8s pre)) (.sl (pre ++ (List.range' k m).filter (qStep q)).length (u8s (pre ++ (List.range' k m).filter (qStep q))))
  | 0, k, pre, hk, _ => by
    refine Ev.succ (fun N => S_ref22_Steps_3_eq N _ _ _ _ _ _ _ _ _ _ _ _ _ _ _ _) (Ev.cond_f (decide_eq_false (by omega)) ?_)
    simpa using Ev.some _
  | m + 1, k, pre, hk, hp => by
    refine Ev.succ (fun N => S_ref22_Steps_3_eq N _ _ _ _ _ _ _ _ _ _ _ _ _ _ _ _) (Ev.cond_t (decide_eq_true (by omega)) ?_)
    refine Ev.bind (v := .bool (qStep q k)) ⟨1, fun N hN => by obtain ⟨M, rfl⟩ : ∃ M, N = M + 1 := ⟨N - 1, by omega⟩; exact ref22_Has q k M⟩ (Ev.cond_t rfl ?_)
    simp only [cells_bool, cellAt_zero, toB_bool]
    rw [wrap_u8 (n := (k : Int) + 1) (by omega) (by omega)]
    have e : (k : Int) + 1 = ((k + 1 : Nat) : Int) := by omega
    rw [e]
    rw [List.range'_succ]
    cases hb : qStep q k with
    | true =>
      have ih := ref22_loop q m (k + 1) (pre ++ [k]) (by omega) (by simp; omega)
      refine Ev.cond_t rfl (Ev.cond_t (le_bound (by omega)) ?_)
      rw [List.filter_cons_of_pos hb]
      simpa [u8s] using ih
    | false =>
      have ih := ref22_loop q m (k + 1) pre (by omega) (by omega)
      refine Ev.cond_f rfl ?_
      rw [List.filter_cons_of_neg (by simp [hb])]
      exact ih
theorem ref22_Steps (q : Query) : Ev (fun N => call cc N n_ref22_Steps [.agg (encQ q)]) (.sl (steps q).length (u8s (steps q))) := by
  unfold encQ
  refine Ev.succ (fun N => F_ref22_Steps N _ _ _ _ _ _ _ _ _ _ _ _ _) ?_
  exact ref22_loop q 10 1 [] rfl (by simp)

end Go.Pv

/- Plans: plan.Of = ref22.Of, plan.Check. -/
namespace Go.Pv

theorem Ev.of {f : Nat → Option V} {r : V} (k : Nat) (h : ∀ N, f (N + k) = Option.some r) : Ev f r :=
  ⟨k, fun N hN => by obtain ⟨M, rfl⟩ : ∃ M, N = M + k := ⟨N - k, by omega⟩; exact h M⟩
theorem encNodes_len (l : List Node) : (encNodes l).length = l.length * 5 := length_flat encNode 5 encNode_len l
theorem ints_len (l : List Int) : (ints l).length = l.length := by simp [ints]

theorem not_great {q : Query} (h : greatQ q = false) : q.arg.length ≤ 70 ∧ q.where_.length ≤ 70 ∧ q.sources.length ≤ 10 := by
  unfold greatQ at h
  simp only [Bool.or_eq_false_iff, decide_eq_false_iff_not] at h
  omega

theorem c59 : Go.Program.cellsOf (Cfg.P cc) 59 = 5 := by kernel_rfl
theorem c3 : Go.Program.cellsOf (Cfg.P cc) 3 = 1 := by kernel_rfl
theorem ref08_Twin {q : Query} (h : greatQ q = false) (N : Nat) : call cc (N + 1) n_ref08_Twin [.agg (encQ q)] = some (.agg (encQ q)) := by
  obtain ⟨h1, h2, h3⟩ := not_great h
  unfold encQ
  rw [F_ref08_Twin]
  simp only [c59, c3, encNodes_len, ints_len, Nat.mul_one, decide_true, cond_true]
  have e : ∀ n : Nat, n ≤ 70 → decide (n ≤ bound) = true := fun n hn => decide_eq_true (by unfold bound; omega)
  rw [e _ h1, e _ h2, e _ (by omega)]
  rfl

theorem u8s_len (l : List Nat) : (u8s l).length = l.length := by simp [u8s]
theorem u8s_at {l : List Nat} {j : Nat} (h : j < l.length) : cellAt (u8s l) j = .int .u8 ((l[j]?.getD 0 : Nat) : Int) := by
  simp [u8s, cellAt, h]

theorem equal_loop (l : List Nat) (hl : l.length ≤ 1000000) : ∀ (suf pre : List Nat), l = pre ++ suf → Ev (fun N => S_slices_Equal_uint8_uint8_4 N l.length (u8s l) l.length (u8s l) l.length (pre.length : Nat)) (.bool true)
  | [], pre, h => by
    refine Ev.succ (fun N => S_slices_Equal_uint8_uint8_4_eq N _ _ _ _ _ _) (Ev.cond_f ?_ (Ev.some _))
    subst h; simp
  | x :: suf, pre, h => by
    have hi : pre.length < l.length := by subst h; simp
    have ih := equal_loop l hl suf (pre ++ [x]) (by rw [h]; simp)
    refine Ev.succ (fun N => S_slices_Equal_uint8_uint8_4_eq N _ _ _ _ _ _) ?_
    have k : okT [CK.i IntKind.u8] (u8s l) ((Int.toNat (pre.length : Nat)) * 1) = true := by
      rw [toNat_cast, Nat.mul_one, okT_cons, u8s_at hi]; rfl
    refine Ev.cond_t (decide_eq_true (by omega)) (Ev.cond_t (decide_eq_true (by omega)) (Ev.cond_t (decide_eq_true (by omega)) (Ev.cond_t k (Ev.cond_t (decide_eq_true (by omega)) (Ev.cond_t (decide_eq_true (by omega)) (Ev.cond_t k ?_))))))
    refine Ev.cond_f (by simp) ?_
    rw [wrap_i64 (n := (pre.length : Int) + 1) (by omega) (by omega)]
    simpa using ih
theorem slices_Equal_self (l : List Nat) (hl : l.length ≤ 1000000) : Ev (fun N => call cc N n_slices_Equal_uint8_uint8 [.sl l.length (u8s l), .sl l.length (u8s l)]) (.bool true) :=
  Ev.succ (fun N => F_slices_Equal_uint8_uint8 N _ _ _ _) (Ev.cond_f (by simp) (equal_loop l hl l [] rfl))

def zeroQ : List V := [.int .u8 0, .sl 0 [], .sl 0 [], .bool false, .sl 0 [], .int .u8 0, .int .i64 0, .int .i64 0, .bool false, .int .u8 0]
/-- A plan: the steps, then the query. -/
def encPlan (q : Query) : List V := .sl (steps q).length (u8s (steps q)) :: encQ q
def planRes (q : Query) : V := if (checkRes q).2 ≠ 0 then .tup [.agg (.sl 0 [] :: zeroQ), .int .i64 (checkRes q).2] else .tup [.agg (encPlan q), .int .i64 0]
theorem plan_Of {q : Query} (hq : QOk q) : Ev (fun N => call cc N n_plan_Of [.agg (encQ q)]) (planRes q) := by
  have hc := checks_Check hq
  have hs : Ev (fun N => call cc N n_plan_steps [.agg (encQ q)]) (.sl (steps q).length (u8s (steps q))) := Ev.of 1 (plan_steps q)
  unfold encQ at hc hs ⊢
  refine Ev.succ (fun N => F_plan_Of N _ _ _ _ _ _ _ _ _ _ _ _ _) (Ev.bind hc (Ev.cond_t (by simp) ?_))
  simp only [cs_tup, cellAt_succ, cellAt_zero, cells_int, toI_int, cond_bne]
  unfold planRes
  by_cases h : (checkRes q).2 = 0
  · have ca := slices_Clone_api_NodeN_Ev (c := encNodes q.arg) (by rw [encNodes_len]) hq.arg
    have cs := slices_Clone_int_int_Ev (c := ints q.sources) (by rw [ints_len, Nat.mul_one]) hq.sources
    have cw := slices_Clone_api_NodeN_Ev (c := encNodes q.where_) (by rw [encNodes_len]) hq.where_
    refine Ev.if_pos h (Ev.bind ca (Ev.cond_t rfl (Ev.bind cs (Ev.cond_t rfl (Ev.bind cw (Ev.cond_t rfl (Ev.bind hs (Ev.cond_t rfl ?_))))))))
    rw [if_neg (fun h' : (checkRes q).2 ≠ 0 => h' h)]
    exact Ev.some _
  · refine Ev.if_neg h ?_
    rw [if_pos h]
    exact Ev.some _
theorem ref22_Of {q : Query} (hg : greatQ q = false) (hq : QOk q) : Ev (fun N => call cc N n_ref22_Of [.agg (encQ q)]) (planRes q) := by
  have hc := ref10_Check hq
  have hs := ref22_Steps q
  have ht : Ev (fun N => call cc N n_ref08_Twin [.agg (encQ q)]) (.agg (encQ q)) := Ev.of 1 (ref08_Twin hg)
  unfold encQ at hc hs ht ⊢
  refine Ev.succ (fun N => F_ref22_Of N _ _ _ _ _ _ _ _ _ _ _ _ _) (Ev.bind hc (Ev.cond_t (by simp) ?_))
  simp only [cs_tup, cellAt_succ, cellAt_zero, cells_int, toI_int, cond_bne]
  unfold planRes
  by_cases h : (checkRes q).2 = 0
  · refine Ev.if_pos h (Ev.bind hs (Ev.cond_t rfl (Ev.bind ht (Ev.cond_t rfl ?_))))
    rw [if_neg (fun h' : (checkRes q).2 ≠ 0 => h' h)]
    exact Ev.some _
  · refine Ev.if_neg h ?_
    rw [if_pos h]
    exact Ev.some _
theorem steps_len (q : Query) : (steps q).length ≤ 10 := by
  unfold steps
  exact Nat.le_trans (List.length_filter_le _ _) (by simp)
theorem plan_Check {q : Query} (hq : QOk q) : Ev (fun N => call cc N n_plan_Check [.agg (encPlan q)]) (.int .i64 (checkRes q).2) := by
  have hc := checks_Check hq
  have hs : Ev (fun N => call cc N n_plan_steps [.agg (encQ q)]) (.sl (steps q).length (u8s (steps q))) := Ev.of 1 (plan_steps q)
  have he := slices_Equal_self (steps q) (by have := steps_len q; omega)
  unfold encPlan
  unfold encQ at hc hs ⊢
  refine Ev.succ (fun N => F_plan_Check N _ _ _ _ _ _ _ _ _ _ _ _ _ _ _) (Ev.bind hc (Ev.cond_t (by simp) ?_))
  simp only [cs_tup, cellAt_succ, cellAt_zero, cells_int, toI_int, cond_bne]
  by_cases h : (checkRes q).2 = 0
  · refine Ev.if_pos h (Ev.bind hs (Ev.cond_t rfl (Ev.bind he (Ev.cond_t rfl (Ev.cond_t rfl ?_)))))
    rw [h]
    exact Ev.some _
  · exact Ev.if_neg h (Ev.some _)

end Go.Pv

/- Tasks: filter, part, sink, channel: program = reference, at every fuel. -/
namespace Go.Pv

theorem filter_New_eq (N : Nat) (x : Int) : call cc (N + 1) n_filter_New [.int .i64 x] = call cc (N + 1) n_ref29_New [.int .i64 x] := by rw [F_filter_New, F_ref29_New]
theorem part_New_eq (N : Nat) (x : Int) : call cc (N + 1) n_part_New [.int .i64 x] = call cc (N + 1) n_ref30_New [.int .i64 x] := by rw [F_part_New, F_ref30_New]
theorem sink_New_eq (N : Nat) (b : Bool) : call cc (N + 1) n_sink_New [.bool b] = call cc (N + 1) n_ref34_New [.bool b] := by rw [F_sink_New, F_ref34_New]
theorem channel_New_eq (N : Nat) (x : Int) : call cc (N + 1) n_channel_New [.int .i64 x] = call cc (N + 1) n_ref26_New [.int .i64 x] := by rw [F_channel_New, F_ref26_New]

def minI : V := .int .i64 (-9223372036854775808)
def marksRes (x : Int) : V := if x < 1 ∨ 4 < x then .tup [.sl 0 [], .int .i64 2] else .tup [.sl x.toNat (List.replicate x.toNat minI), .int .i64 0]
theorem ref31_loop (x : Nat) (hx : x ≤ 4) : ∀ (m j : Nat), j + m = x → Ev (fun N => S_ref31_New_5 N (x : Int) j (j : Int) (List.replicate j minI)) (.tup [.sl x (List.replicate x minI), .int .i64 0])
  | 0, j, h => by
    have : j = x := by omega
    subst this
    exact Ev.succ (fun N => S_ref31_New_5_eq N _ _ _ _) (Ev.cond_f (decide_eq_false (by omega)) (Ev.some _))
  | m + 1, j, h => by
    refine Ev.succ (fun N => S_ref31_New_5_eq N _ _ _ _) (Ev.cond_t (decide_eq_true (by omega)) (Ev.cond_t (le_bound (by omega)) ?_))
    rw [wrap_i64 (n := (j : Int) + 1) (by omega) (by omega)]
    have ih := ref31_loop x hx m (j + 1) (by omega)
    rw [List.replicate_succ'] at ih
    exact ih
theorem ref31_New (x : Int) : Ev (fun N => call cc N n_ref31_New [.int .i64 x]) (marksRes x) := by
  refine Ev.succ (fun N => F_ref31_New N x) ?_
  unfold marksRes
  by_cases h1 : x < 1
  · rw [if_pos (Or.inl h1)]; exact Ev.cond_t (decide_eq_true h1) (Ev.some _)
  · refine Ev.cond_f (decide_eq_false h1) ?_
    by_cases h4 : 4 < x
    · rw [if_pos (Or.inr h4)]; exact Ev.cond_t (decide_eq_true h4) (Ev.some _)
    · rw [if_neg (by omega)]
      obtain ⟨k, rfl⟩ : ∃ k : Nat, x = k := ⟨x.toNat, by omega⟩
      exact Ev.cond_f (decide_eq_false h4) (ref31_loop k (by omega) k 0 (by omega))

end Go.Pv

/- Tasks: marks.New, agg.New, join.New, source.New and their references. -/
namespace Go.Pv

theorem Repeat_1 (N : Nat) : call cc (N + 8) n_slices_Repeat_int64_int64 [.sl 1 [minI], .int .i64 1] = some (.sl 1 [minI]) := by kernel_rfl
theorem Repeat_2 (N : Nat) : call cc (N + 8) n_slices_Repeat_int64_int64 [.sl 1 [minI], .int .i64 2] = some (.sl 2 [minI, minI]) := by kernel_rfl
theorem Repeat_3 (N : Nat) : call cc (N + 8) n_slices_Repeat_int64_int64 [.sl 1 [minI], .int .i64 3] = some (.sl 3 [minI, minI, minI]) := by kernel_rfl
theorem Repeat_4 (N : Nat) : call cc (N + 8) n_slices_Repeat_int64_int64 [.sl 1 [minI], .int .i64 4] = some (.sl 4 [minI, minI, minI, minI]) := by kernel_rfl
theorem Repeat_x {x : Int} (h : 1 ≤ x) (h' : x ≤ 4) (N : Nat) : call cc (N + 8) n_slices_Repeat_int64_int64 [.sl 1 [minI], .int .i64 x] = some (.sl x.toNat (List.replicate x.toNat minI)) := by
  have : x = 1 ∨ x = 2 ∨ x = 3 ∨ x = 4 := by omega
  rcases this with rfl | rfl | rfl | rfl
  · exact Repeat_1 N
  · exact Repeat_2 N
  · exact Repeat_3 N
  · exact Repeat_4 N

theorem marks_New (x : Int) : Ev (fun N => call cc N n_marks_New [.int .i64 x]) (marksRes x) := by
  refine Ev.succ (fun N => F_marks_New N x) ?_
  unfold marksRes
  by_cases h1 : x < 1
  · rw [if_pos (Or.inl h1)]; exact Ev.cond_t (decide_eq_true h1) (Ev.some _)
  · refine Ev.cond_f (decide_eq_false h1) ?_
    by_cases h4 : 4 < x
    · rw [if_pos (Or.inr h4)]; exact Ev.cond_t (decide_eq_true h4) (Ev.some _)
    · rw [if_neg (by omega)]
      exact Ev.cond_f (decide_eq_false h4) (Ev.bind (Ev.of 8 (Repeat_x (by omega) (by omega))) (Ev.cond_t rfl (Ev.some _)))

def task0 : List V := [.int .u8 0, .int .i64 0, .int .i64 0, .sl 0 [], .sl 0 [], .sl 0 [], .sl 0 [], .sl 0 [], .sl 0 []]
def aggRes (x y : Int) : V := if x < 0 ∨ 3 ≤ x ∨ y < 1 ∨ 4 < y then .tup [.agg task0, .int .i64 2] else
  .tup [.agg [.int .u8 4, .int .i64 x, .int .i64 0, .sl 0 [], .sl y.toNat (List.replicate y.toNat minI), .sl 0 [], .sl 0 [], .sl 0 [], .sl 0 []], .int .i64 0]
theorem agg_New (x y : Int) : Ev (fun N => call cc N n_agg_New [.int .i64 x, .int .i64 y]) (aggRes x y) := by
  refine Ev.succ (fun N => F_agg_New N x y) (Ev.bind (marks_New y) ?_)
  unfold marksRes aggRes
  by_cases hy : y < 1 ∨ 4 < y
  · rw [if_pos hy, if_pos (by omega)]
    exact Ev.cond_t rfl (Ev.cond_t rfl (Ev.some _))
  · rw [if_neg hy]
    refine Ev.cond_t rfl (Ev.cond_f rfl ?_)
    by_cases h0 : x < 0
    · rw [if_pos (by omega)]; exact Ev.cond_t (decide_eq_true h0) (Ev.some _)
    · refine Ev.cond_f (decide_eq_false h0) ?_
      by_cases h3 : x ≥ 3
      · rw [if_pos (by omega)]; exact Ev.cond_t (decide_eq_true h3) (Ev.some _)
      · rw [if_neg (by omega)]; exact Ev.cond_f (decide_eq_false h3) (Ev.some _)
theorem ref32_New (x y : Int) : Ev (fun N => call cc N n_ref32_New [.int .i64 x, .int .i64 y]) (aggRes x y) := by
  refine Ev.succ (fun N => F_ref32_New N x y) ?_
  unfold aggRes
  by_cases h0 : x < 0
  · rw [if_pos (by omega)]; exact Ev.cond_t (decide_eq_true h0) (Ev.some _)
  refine Ev.cond_f (decide_eq_false h0) ?_
  by_cases h3 : x ≥ 3
  · rw [if_pos (by omega)]; exact Ev.cond_t (decide_eq_true h3) (Ev.some _)
  refine Ev.cond_f (decide_eq_false h3) ?_
  by_cases h1 : y < 1
  · rw [if_pos (by omega)]; exact Ev.cond_t (decide_eq_true h1) (Ev.some _)
  refine Ev.cond_f (decide_eq_false h1) ?_
  by_cases h4 : y > 4
  · rw [if_pos (by omega)]; exact Ev.cond_t (decide_eq_true h4) (Ev.some _)
  refine Ev.cond_f (decide_eq_false h4) (Ev.bind (ref31_New y) ?_)
  unfold marksRes
  rw [if_neg (by omega), if_neg (by omega)]
  exact Ev.cond_t rfl (Ev.some _)

def joinRes (x : Int) : V := if x < 0 ∨ 3 ≤ x then .tup [.agg task0, .int .i64 2] else
  .tup [.agg [.int .u8 5, .int .i64 x, .int .i64 0, .sl 0 [], .sl 2 [minI, minI], .sl 0 [], .sl 0 [], .sl 0 [], .sl 0 []], .int .i64 0]
theorem join_New (x : Int) : Ev (fun N => call cc N n_join_New [.int .i64 x]) (joinRes x) := by
  refine Ev.succ (fun N => F_join_New N x) ?_
  unfold joinRes
  by_cases h0 : x < 0
  · rw [if_pos (by omega)]; exact Ev.cond_t (decide_eq_true h0) (Ev.some _)
  refine Ev.cond_f (decide_eq_false h0) ?_
  by_cases h3 : x ≥ 3
  · rw [if_pos (by omega)]; exact Ev.cond_t (decide_eq_true h3) (Ev.some _)
  refine Ev.cond_f (decide_eq_false h3) (Ev.bind (marks_New 2) (Ev.cond_t rfl ?_))
  rw [if_neg (by omega)]; exact Ev.some _
theorem ref33_New (x : Int) : Ev (fun N => call cc N n_ref33_New [.int .i64 x]) (joinRes x) := by
  refine Ev.succ (fun N => F_ref33_New N x) ?_
  unfold joinRes
  by_cases h0 : x < 0
  · rw [if_pos (by omega)]; exact Ev.cond_t (decide_eq_true h0) (Ev.some _)
  refine Ev.cond_f (decide_eq_false h0) ?_
  by_cases h3 : x ≥ 3
  · rw [if_pos (by omega)]; exact Ev.cond_t (decide_eq_true h3) (Ev.some _)
  refine Ev.cond_f (decide_eq_false h3) (Ev.bind (ref31_New 2) (Ev.cond_t rfl ?_))
  rw [if_neg (by omega)]; exact Ev.some _

/-! source.New, for lists that are right -/
def srcTask (x : Int) (l : List Item) : List V := [.int .u8 1, .int .i64 x, .int .i64 0, .sl 0 [], .sl 0 [], .sl 0 [], .sl l.length (encItems l), .sl 0 [], .sl 0 []]
theorem source_New_1 (x : Item) (N : Nat) : call cc (N + 5) n_source_New_1 [.agg (encItem x)] = some (.bool (!itemB x)) := by
  unfold encItem
  have := message_Event x N
  unfold encItem at this
  rw [F_source_New_1, this]
  cases itemB x <;> rfl
theorem itemsErr_0 {l : List Item} (h : itemsErr l = 0) : l.length ≤ 60 ∧ l.all itemB = true := by
  unfold itemsErr at h
  split at h
  · omega
  · split at h
    · exact ⟨by omega, by assumption⟩
    · omega
theorem all_at {l : List Item} (h : l.all itemB = true) {i : Nat} (hi : i < l.length) : itemB (it l i) = true := by
  rw [List.all_eq_true] at h
  have : it l i ∈ l := by unfold it; rw [List.getElem?_eq_getElem hi]; exact List.getElem_mem hi
  exact h _ this
theorem source_loop {l : List Item} (h60 : l.length ≤ 60) (ha : l.all itemB = true) : ∀ k i, i + k = l.length → Ev (fun N => S_slices_IndexFunc_api_Event_api_Event_a_2 N l.length (encItems l) l.length (i : Nat)) (.int .i64 (-1))
  | 0, i, h => Ev.succ (fun N => S_slices_IndexFunc_api_Event_api_Event_a_2_eq N _ _ _ _) (Ev.cond_f (decide_eq_false (by omega)) (Ev.some _))
  | k + 1, i, h => by
    have hi : i < l.length := by omega
    have ih := source_loop h60 ha k (i + 1) (by omega)
    refine Ev.succ (fun N => S_slices_IndexFunc_api_Event_api_Event_a_2_eq N _ _ _ _) ?_
    simp only [toNat_cast, item_0 hi, item_1 hi, item_2 hi, item_3 hi, item_4 hi, item_okT hi, toI_int, toB_bool]
    refine Ev.cond_t (decide_eq_true (by omega)) (Ev.cond_t (decide_eq_true (by omega)) (Ev.cond_t (decide_eq_true (by omega)) (Ev.cond_t rfl ?_)))
    refine Ev.bind (Ev.of 5 (source_New_1 (it l i))) (Ev.cond_t rfl (Ev.cond_f ?_ ?_))
    · rw [all_at ha hi]; rfl
    · rw [wrap_i64 (n := (i : Int) + 1) (by omega) (by omega)]
      exact ih
theorem encItems_len (l : List Item) : (encItems l).length = l.length * 5 := length_flat encItem 5 encItem_len l
theorem source_New {l : List Item} (hl : itemsErr l = 0) {x : Int} (h0 : 0 ≤ x) (h4 : x < 4) : Ev (fun N => call cc N n_source_New [.int .i64 x, .sl l.length (encItems l)]) (.tup [.agg (srcTask x l), .int .i64 0]) := by
  obtain ⟨h60, ha⟩ := itemsErr_0 hl
  refine Ev.succ (fun N => F_source_New N x _ _) (Ev.cond_f (decide_eq_false (by omega)) (Ev.cond_f (decide_eq_false (by omega)) (Ev.cond_f (decide_eq_false (by omega)) ?_)))
  refine Ev.bind (Ev.succ (fun N => F_slices_ContainsFunc_api_Event_api_Event_a N _ _) (Ev.bind (Ev.succ (fun N => F_slices_IndexFunc_api_Event_api_Event_a N _ _) (source_loop h60 ha l.length 0 (by omega))) (Ev.cond_t rfl (Ev.cond_f rfl (Ev.some _))))) ?_
  exact Ev.cond_t rfl (Ev.cond_f rfl (Ev.bind (slices_Clone_api_Event_api_Event_Ev (by rw [encItems_len]) (by omega)) (Ev.cond_t rfl (Ev.some _))))

theorem c96 : Go.Program.cellsOf (Cfg.P cc) 96 = 5 := by kernel_rfl
theorem ref28_loop {l : List Item} (h60 : l.length ≤ 60) (ha : l.all itemB = true) (x : Int) (a b c : Int) : ∀ k i, i + k = l.length → Ev (fun N => S_ref28_New_6 N x l.length (encItems l) (i : Nat) a b c) (.tup [.agg (srcTask x l), .int .i64 0])
  | 0, i, h => by
    refine Ev.succ (fun N => S_ref28_New_6_eq N _ _ _ _ _ _ _) (Ev.cond_f (decide_eq_false (by omega)) ?_)
    rw [c96, encItems_len]
    exact Ev.cond_t (decide_eq_true rfl) (Ev.cond_t (decide_eq_true (by unfold bound; omega)) (Ev.some _))
  | k + 1, i, h => by
    have hi : i < l.length := by omega
    have ih := ref28_loop h60 ha x a b c k (i + 1) (by omega)
    refine Ev.succ (fun N => S_ref28_New_6_eq N _ _ _ _ _ _ _) ?_
    simp only [toNat_cast, item_0 hi, item_1 hi, item_2 hi, item_3 hi, item_4 hi, item_okT hi, toI_int, toB_bool]
    refine Ev.cond_t (decide_eq_true (by omega)) (Ev.cond_t (decide_eq_true (by omega)) (Ev.cond_t (decide_eq_true (by omega)) (Ev.cond_t rfl ?_)))
    refine Ev.bind (Ev.of 2 (ref25_Event (it l i))) (Ev.cond_t rfl (Ev.cond_f ?_ ?_))
    · rw [all_at ha hi]; rfl
    · rw [wrap_i64 (n := (i : Int) + 1) (by omega) (by omega)]
      exact ih
theorem ref28_New {l : List Item} (hl : itemsErr l = 0) {x : Int} (h0 : 0 ≤ x) (h4 : x < 4) : Ev (fun N => call cc N n_ref28_New [.int .i64 x, .sl l.length (encItems l)]) (.tup [.agg (srcTask x l), .int .i64 0]) := by
  obtain ⟨h60, ha⟩ := itemsErr_0 hl
  exact Ev.succ (fun N => F_ref28_New N x _ _) (Ev.cond_f (decide_eq_false (by omega)) (Ev.cond_f (decide_eq_false (by omega)) (Ev.cond_f (decide_eq_false (by omega)) (ref28_loop h60 ha x 0 0 0 l.length 0 (by omega)))))

end Go.Pv
