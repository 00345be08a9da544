/- The law BuildMakes answers true for every query, every input and every numbers, and its arguments read as they read before: no condition. Part 6 of 7. -/
import Derived.Test.YtdelcbejcdpmiaaGreatCm5
/- Graphs: graph.Of and ref24.Made. -/
namespace Go.Pv

abbrev OpT := Nat × Nat
abbrev ChT := Nat × Nat × Nat × Nat
def opV (p : OpT) : List V := [.int .u8 (p.1 : Int), .int .i64 (p.2 : Int)]
def chV (room : Int) (p : ChT) : List V := [.int .i64 (p.1 : Int), .int .i64 (p.2.1 : Int), .int .i64 (p.2.2.1 : Int), .int .i64 (p.2.2.2 : Int), .int .i64 room]
def encOps (l : List OpT) : List V := l.flatMap opV
def encChs (room : Int) (l : List ChT) : List V := l.flatMap (chV room)
theorem encOps_snoc (l : List OpT) (k i : Nat) : encOps l ++ [.int .u8 (k : Int), .int .i64 (i : Int)] = encOps (l ++ [(k, i)]) := by simp [encOps, opV]
theorem encChs_snoc (room : Int) (l : List ChT) (f o t i : Nat) : encChs room l ++ [.int .i64 (f : Int), .int .i64 (o : Int), .int .i64 (t : Int), .int .i64 (i : Int), .int .i64 room] = encChs room (l ++ [(f, o, t, i)]) := by simp [encChs, chV]
theorem W_add {a b : Nat} (h : a + b ≤ 100000) : IntKind.wrap .i64 ((a : Int) + (b : Int)) = ((a + b : Nat) : Int) := by rw [wrap_i64 (by omega) (by omega)]; omega
theorem W_succ {a : Nat} (h : a ≤ 100000) : IntKind.wrap .i64 ((a : Int) + 1) = ((a + 1 : Nat) : Int) := by rw [wrap_i64 (by omega) (by omega)]; omega
theorem W_sub {a b : Nat} (h : b ≤ a) (h' : a ≤ 100000) : IntKind.wrap .i64 ((a : Int) - (b : Int)) = ((a - b : Nat) : Int) := by rw [wrap_i64 (by omega) (by omega)]; omega
theorem W_two {a : Nat} (h : a ≤ 1000) : IntKind.wrap .i64 ((2 : Int) * (a : Int)) = ((2 * a : Nat) : Int) := by rw [wrap_i64 (by omega) (by omega)]; omega
theorem lt_bound {n m : Nat} (h : n + 1 ≤ m) (h' : m ≤ 1000) : decide (n + 1 ≤ bound) = true := decide_eq_true (by unfold bound; omega)

theorem flat_nil {α β : Type} (l : List α) : l.flatMap (fun _ => ([] : List β)) = [] := by induction l <;> simp_all
/-- A loop that appends to two lists. -/
theorem phase {S : Nat → List OpT → List ChT → Nat → Option V} {fo : Nat → List OpT} {fc : Nat → List ChT} {a b : Nat}
    (step : ∀ (i : Nat) (lo : List OpT) (lc : List ChT) (r : V), a ≤ i → i < b → (lo ++ fo i).length ≤ 1000 → (lc ++ fc i).length ≤ 1000 → Ev (S (i + 1) (lo ++ fo i) (lc ++ fc i)) r → Ev (S i lo lc) r) :
    ∀ (k i : Nat) (lo : List OpT) (lc : List ChT) (r : V), a ≤ i → i + k = b → (lo ++ (List.range' i k).flatMap fo).length ≤ 1000 → (lc ++ (List.range' i k).flatMap fc).length ≤ 1000 →
      Ev (S b (lo ++ (List.range' i k).flatMap fo) (lc ++ (List.range' i k).flatMap fc)) r → Ev (S i lo lc) r
  | 0, i, lo, lc, r, _, hb, _, _, h => by
    obtain rfl : i = b := by omega
    simpa using h
  | k + 1, i, lo, lc, r, ha, hb, h1, h2, h => by
    have e1 : lo ++ (List.range' i (k + 1)).flatMap fo = (lo ++ fo i) ++ (List.range' (i + 1) k).flatMap fo := by simp [List.range'_succ]
    have e2 : lc ++ (List.range' i (k + 1)).flatMap fc = (lc ++ fc i) ++ (List.range' (i + 1) k).flatMap fc := by simp [List.range'_succ]
    rw [e1] at h1 h
    rw [e2] at h2 h
    refine step i lo lc r ha (by omega) ?_ ?_ (phase step k (i + 1) _ _ r (by omega) (by omega) h1 h2 h)
    · rw [List.length_append] at h1; omega
    · rw [List.length_append] at h2; omega

section
variable (a1 : Nat) (a2 : List V) (a3 : Int) (a4 : Nat) (a5 : List V) (n : Nat) (a7 : List V) (jn : Bool) (a9 : Nat) (a10 : List V) (a11 a12 a13 : Int) (key : Bool) (lt : Int) (room : Int)

noncomputable abbrev D_1_3 (k0 m : Nat) (x1 x22 x23 : Int) (n24 : Nat) (c25 : List V) (x26 x27 : Int) (i : Nat) (lo : List OpT) (_ : List ChT) (N : Nat) : Option V := S_graph_Of_1_3 N (k0 : Int) x1 (m : Int) (i : Int) a1 a2 a3 a4 a5 n a7 jn a9 a10 a11 a12 a13 key lt room lo.length (encOps lo) x22 x23 n24 c25 x26 x27
theorem g_1_3 (k0 m : Nat) (x1 x22 x23 : Int) (n24 : Nat) (c25 : List V) (x26 x27 : Int) (hm : m ≤ 1000) : ∀ (i : Nat) (lo : List OpT) (lc : List ChT) (r : V), 0 ≤ i → i < m → (lo ++ [(k0, i)]).length ≤ 1000 → (lc ++ ([] : List ChT)).length ≤ 1000 →
    Ev (D_1_3 a1 a2 a3 a4 a5 n a7 jn a9 a10 a11 a12 a13 key lt room k0 m x1 x22 x23 n24 c25 x26 x27 (i + 1) (lo ++ [(k0, i)]) (lc ++ [])) r → Ev (D_1_3 a1 a2 a3 a4 a5 n a7 jn a9 a10 a11 a12 a13 key lt room k0 m x1 x22 x23 n24 c25 x26 x27 i lo lc) r := by
  intro i lo lc r _ hi h1 h2 h
  rw [List.length_append] at h1
  refine Ev.succ (fun N => S_graph_Of_1_3_eq N _ _ _ _ _ _ _ _ _ _ _ _ _ _ _ _ _ _ _ _ _ _ _ _ _ _ _ _) (Ev.cond_t (decide_eq_true (by omega)) (Ev.cond_t (lt_bound (by simpa using h1) (Nat.le_refl _)) ?_))
  rw [W_succ (by omega), encOps_snoc]
  unfold D_1_3 at h
  simpa only [List.length_append, List.length_cons, List.length_nil] using h

noncomputable abbrev D_1_3_2 (k0 m : Nat) (x1 : Int) (c21 : List V) (x23 x24 : Int) (n25 : Nat) (c26 : List V) (x27 x28 x29 x30 : Int) (i : Nat) (lo : List OpT) (_ : List ChT) (N : Nat) : Option V := S_graph_Of_1_3_2 N (k0 : Int) x1 (m : Int) (i : Int) a1 a2 a3 a4 a5 n a7 jn a9 a10 a11 a12 a13 key lt room lo.length c21 (encOps lo) x23 x24 n25 c26 x27 x28 x29 x30
theorem g_1_3_2 (k0 m : Nat) (x1 : Int) (c21 : List V) (x23 x24 : Int) (n25 : Nat) (c26 : List V) (x27 x28 x29 x30 : Int) (hm : m ≤ 1000) : ∀ (i : Nat) (lo : List OpT) (lc : List ChT) (r : V), 0 ≤ i → i < m → (lo ++ [(k0, i)]).length ≤ 1000 → (lc ++ ([] : List ChT)).length ≤ 1000 →
    Ev (D_1_3_2 a1 a2 a3 a4 a5 n a7 jn a9 a10 a11 a12 a13 key lt room k0 m x1 c21 x23 x24 n25 c26 x27 x28 x29 x30 (i + 1) (lo ++ [(k0, i)]) (lc ++ [])) r → Ev (D_1_3_2 a1 a2 a3 a4 a5 n a7 jn a9 a10 a11 a12 a13 key lt room k0 m x1 c21 x23 x24 n25 c26 x27 x28 x29 x30 i lo lc) r := by
  intro i lo lc r _ hi h1 h2 h
  rw [List.length_append] at h1
  refine Ev.succ (fun N => S_graph_Of_1_3_2_eq N _ _ _ _ _ _ _ _ _ _ _ _ _ _ _ _ _ _ _ _ _ _ _ _ _ _ _ _ _ _ _) (Ev.cond_t (decide_eq_true (by omega)) (Ev.cond_t (lt_bound (by simpa using h1) (Nat.le_refl _)) ?_))
  rw [W_succ (by omega), encOps_snoc]
  unfold D_1_3_2 at h
  simpa only [List.length_append, List.length_cons, List.length_nil] using h

noncomputable abbrev D_1_3_6 (k0 m : Nat) (x1 : Int) (c21 c22 : List V) (x24 x25 x26 x27 : Int) (n28 : Nat) (c29 : List V) (x30 x31 x32 x33 x34 x35 : Int) (b36 : Bool) (x37 : Int) (i : Nat) (lo : List OpT) (_ : List ChT) (N : Nat) : Option V := S_graph_Of_1_3_6 N (k0 : Int) x1 (m : Int) (i : Int) a1 a2 a3 a4 a5 n a7 jn a9 a10 a11 a12 a13 key lt room lo.length c21 c22 (encOps lo) x24 x25 x26 x27 n28 c29 x30 x31 x32 x33 x34 x35 b36 x37
theorem g_1_3_6 (k0 m : Nat) (x1 : Int) (c21 c22 : List V) (x24 x25 x26 x27 : Int) (n28 : Nat) (c29 : List V) (x30 x31 x32 x33 x34 x35 : Int) (b36 : Bool) (x37 : Int) (hm : m ≤ 1000) : ∀ (i : Nat) (lo : List OpT) (lc : List ChT) (r : V), 0 ≤ i → i < m → (lo ++ [(k0, i)]).length ≤ 1000 → (lc ++ ([] : List ChT)).length ≤ 1000 →
    Ev (D_1_3_6 a1 a2 a3 a4 a5 n a7 jn a9 a10 a11 a12 a13 key lt room k0 m x1 c21 c22 x24 x25 x26 x27 n28 c29 x30 x31 x32 x33 x34 x35 b36 x37 (i + 1) (lo ++ [(k0, i)]) (lc ++ [])) r → Ev (D_1_3_6 a1 a2 a3 a4 a5 n a7 jn a9 a10 a11 a12 a13 key lt room k0 m x1 c21 c22 x24 x25 x26 x27 n28 c29 x30 x31 x32 x33 x34 x35 b36 x37 i lo lc) r := by
  intro i lo lc r _ hi h1 h2 h
  rw [List.length_append] at h1
  refine Ev.succ (fun N => S_graph_Of_1_3_6_eq N _ _ _ _ _ _ _ _ _ _ _ _ _ _ _ _ _ _ _ _ _ _ _ _ _ _ _ _ _ _ _ _ _ _ _ _ _ _) (Ev.cond_t (decide_eq_true (by omega)) (Ev.cond_t (lt_bound (by simpa using h1) (Nat.le_refl _)) ?_))
  rw [W_succ (by omega), encOps_snoc]
  unfold D_1_3_6 at h
  simpa only [List.length_append, List.length_cons, List.length_nil] using h

noncomputable abbrev D_1_3_8 (k0 m : Nat) (x1 : Int) (n20 : Nat) (c22 c23 : List V) (x25 x26 x27 x28 x29 x30 x31 : Int) (i : Nat) (lo : List OpT) (_ : List ChT) (N : Nat) : Option V := S_graph_Of_1_3_8 N (k0 : Int) x1 (m : Int) (i : Int) a1 a2 a3 a4 a5 n a7 jn a9 a10 a11 a12 a13 key lt lo.length n20 room c22 c23 (encOps lo) x25 x26 x27 x28 x29 x30 x31
theorem g_1_3_8 (k0 m : Nat) (x1 : Int) (n20 : Nat) (c22 c23 : List V) (x25 x26 x27 x28 x29 x30 x31 : Int) (hm : m ≤ 1000) : ∀ (i : Nat) (lo : List OpT) (lc : List ChT) (r : V), 0 ≤ i → i < m → (lo ++ [(k0, i)]).length ≤ 1000 → (lc ++ ([] : List ChT)).length ≤ 1000 →
    Ev (D_1_3_8 a1 a2 a3 a4 a5 n a7 jn a9 a10 a11 a12 a13 key lt room k0 m x1 n20 c22 c23 x25 x26 x27 x28 x29 x30 x31 (i + 1) (lo ++ [(k0, i)]) (lc ++ [])) r → Ev (D_1_3_8 a1 a2 a3 a4 a5 n a7 jn a9 a10 a11 a12 a13 key lt room k0 m x1 n20 c22 c23 x25 x26 x27 x28 x29 x30 x31 i lo lc) r := by
  intro i lo lc r _ hi h1 h2 h
  rw [List.length_append] at h1
  refine Ev.succ (fun N => S_graph_Of_1_3_8_eq N _ _ _ _ _ _ _ _ _ _ _ _ _ _ _ _ _ _ _ _ _ _ _ _ _ _ _ _ _ _ _ _) (Ev.cond_t (decide_eq_true (by omega)) (Ev.cond_t (lt_bound (by simpa using h1) (Nat.le_refl _)) ?_))
  rw [W_succ (by omega), encOps_snoc]
  unfold D_1_3_8 at h
  simpa only [List.length_append, List.length_cons, List.length_nil] using h

/-! The channels. -/
noncomputable abbrev D_22 (p m fl sp fi si no : Nat) (co : List V) (i : Nat) (_ : List OpT) (lc : List ChT) (N : Nat) : Option V := S_graph_Of_22 N p n fl sp fi si m i a1 a2 a3 a4 a5 n a7 jn a9 a10 a11 a12 a13 key lt no lc.length room co (encChs room lc)
theorem g_22 (p m fl sp fi si no : Nat) (co : List V) (hm : m ≤ 1000) (hf : fl ≤ 1000) : ∀ (i : Nat) (lo : List OpT) (lc : List ChT) (r : V), 0 ≤ i → i < m → (lo ++ ([] : List OpT)).length ≤ 1000 → (lc ++ [(i, 0, fl + i, 0)]).length ≤ 1000 →
    Ev (D_22 a1 a2 a3 a4 a5 n a7 jn a9 a10 a11 a12 a13 key lt room p m fl sp fi si no co (i + 1) (lo ++ []) (lc ++ [(i, 0, fl + i, 0)])) r →
    Ev (D_22 a1 a2 a3 a4 a5 n a7 jn a9 a10 a11 a12 a13 key lt room p m fl sp fi si no co i lo lc) r := by
  intro i lo lc r _ hi h1 h2 h
  rw [List.length_append] at h2
  refine Ev.succ (fun N => S_graph_Of_22_eq N _ _ _ _ _ _ _ _ _ _ _ _ _ _ _ _ _ _ _ _ _ _ _ _ _ _ _ _) (Ev.cond_t (decide_eq_true (by omega)) (Ev.succ (fun N => S_graph_Of_23_eq N _ _ _ _ _ _ _ _ _ _ _ _ _ _ _ _ _ _ _ _ _ _ _ _ _ _ _ _) (Ev.cond_t (lt_bound (by simpa using h2) (Nat.le_refl _)) ?_)))
  rw [W_succ (by omega), W_add (by omega)]
  have := encChs_snoc room lc i 0 (fl + i) 0
  rw [show ((0 : Nat) : Int) = 0 from rfl] at this
  rw [this]
  unfold D_22 at h
  simpa only [List.length_append, List.length_cons, List.length_nil] using h

def c27 (key side : Bool) (fl sp fi si i : Nat) : List ChT := (if key then (fl + i, 0, sp + i, 0) else (fl + i, 0, fi, i)) :: (if side then [(fl + i, 1, si + 1, i)] else [])
noncomputable abbrev D_27 (p m fl sp fi si no : Nat) (co : List V) (i : Nat) (_ : List OpT) (lc : List ChT) (N : Nat) : Option V := S_graph_Of_27 N p n fl sp fi si m i a1 a2 a3 a4 a5 n a7 jn a9 a10 a11 a12 a13 key lt no lc.length room co (encChs room lc)
theorem g_27 (p m fl sp fi si no : Nat) (co : List V) (hm : m ≤ 1000) (hf : fl ≤ 1000) (hs : sp ≤ 1000) (hsi : si ≤ 1000) : ∀ (i : Nat) (lo : List OpT) (lc : List ChT) (r : V), 0 ≤ i → i < m → (lo ++ ([] : List OpT)).length ≤ 1000 → (lc ++ c27 key (lt == 2) fl sp fi si i).length ≤ 1000 →
    Ev (D_27 a1 a2 a3 a4 a5 n a7 jn a9 a10 a11 a12 a13 key lt room p m fl sp fi si no co (i + 1) (lo ++ []) (lc ++ c27 key (lt == 2) fl sp fi si i)) r →
    Ev (D_27 a1 a2 a3 a4 a5 n a7 jn a9 a10 a11 a12 a13 key lt room p m fl sp fi si no co i lo lc) r := by
  intro i lo lc r _ hi h1 h2 h
  refine Ev.succ (fun N => S_graph_Of_27_eq N _ _ _ _ _ _ _ _ _ _ _ _ _ _ _ _ _ _ _ _ _ _ _ _ _ _ _ _) (Ev.cond_t (decide_eq_true (by omega)) (Ev.succ (fun N => S_graph_Of_28_eq N _ _ _ _ _ _ _ _ _ _ _ _ _ _ _ _ _ _ _ _ _ _ _ _ _ _ _ _) ?_))
  have tail : ∀ (x : ChT), c27 key (lt == 2) fl sp fi si i = x :: (if lt == 2 then [(fl + i, 1, si + 1, i)] else []) →
      Ev (fun N => S_graph_Of_32 N p n fl sp fi si i m i a1 a2 a3 a4 a5 n a7 jn a9 a10 a11 a12 a13 key lt no (lc.length + 1) room co (encChs room (lc ++ [x]))) r := by
    intro x hx
    rw [hx] at h h2
    refine Ev.succ (fun N => S_graph_Of_32_eq N _ _ _ _ _ _ _ _ _ _ _ _ _ _ _ _ _ _ _ _ _ _ _ _ _ _ _ _ _) ?_
    cases hl : (lt == 2) with
    | true =>
      rw [hl] at h h2
      simp only [List.length_append, List.length_cons, List.length_nil, if_true] at h2
      refine Ev.cond_t rfl (Ev.cond_t (lt_bound (m := 1000) (by omega) (Nat.le_refl _)) (Ev.succ (fun N => S_graph_Of_34_eq N _ _ _ _ _ _ _ _ _ _ _ _ _ _ _ _ _ _ _ _ _ _ _ _ _ _ _ _) ?_))
      rw [W_succ (by omega), W_succ (by omega), W_add (by omega)]
      have := encChs_snoc room (lc ++ [x]) (fl + i) 1 (si + 1) i
      rw [show ((1 : Nat) : Int) = 1 from rfl] at this
      rw [this]
      unfold D_27 at h
      simpa [List.append_assoc, Nat.add_assoc] using h
    | false =>
      rw [hl] at h
      refine Ev.cond_f rfl (Ev.succ (fun N => S_graph_Of_34_eq N _ _ _ _ _ _ _ _ _ _ _ _ _ _ _ _ _ _ _ _ _ _ _ _ _ _ _ _) ?_)
      rw [W_succ (by omega)]
      unfold D_27 at h
      simpa using h
  have hb : decide (lc.length + 1 ≤ bound) = true := by
    refine lt_bound (m := 1000) ?_ (Nat.le_refl _)
    unfold c27 at h2
    simp only [List.length_append, List.length_cons] at h2
    omega
  cases hk : key with
  | true =>
    subst hk
    refine Ev.cond_t rfl (Ev.cond_t hb ?_)
    rw [W_add (by omega), W_add (by omega)]
    have := encChs_snoc room lc (fl + i) 0 (sp + i) 0
    rw [show ((0 : Nat) : Int) = 0 from rfl] at this
    rw [this]
    exact tail (fl + i, 0, sp + i, 0) rfl
  | false =>
    subst hk
    refine Ev.cond_f rfl (Ev.cond_t hb ?_)
    rw [W_add (by omega)]
    have := encChs_snoc room lc (fl + i) 0 fi i
    rw [show ((0 : Nat) : Int) = 0 from rfl] at this
    rw [this]
    exact tail (fl + i, 0, fi, i) rfl

def c39 (key : Bool) (sp fi i k : Nat) : List ChT := if key then [(sp + i, k, fi + k, i)] else []
noncomputable abbrev D_39 (p m sp fi si no j : Nat) (co : List V) (i : Nat) (_ : List OpT) (lc : List ChT) (N : Nat) : Option V := S_graph_Of_39 N p sp fi si j m j p i a1 a2 a3 a4 a5 n a7 jn a9 a10 a11 a12 a13 key lt no lc.length room co (encChs room lc)
theorem g_39 (p m sp fi si no j : Nat) (co : List V) (hp : p ≤ 1000) (hs : sp ≤ 1000) (hf : fi ≤ 1000) (hj : j ≤ 1000) : ∀ (i : Nat) (lo : List OpT) (lc : List ChT) (r : V), 0 ≤ i → i < p → (lo ++ ([] : List OpT)).length ≤ 1000 → (lc ++ c39 key sp fi j i).length ≤ 1000 →
    Ev (D_39 a1 a2 a3 a4 a5 n a7 jn a9 a10 a11 a12 a13 key lt room p m sp fi si no j co (i + 1) (lo ++ []) (lc ++ c39 key sp fi j i)) r →
    Ev (D_39 a1 a2 a3 a4 a5 n a7 jn a9 a10 a11 a12 a13 key lt room p m sp fi si no j co i lo lc) r := by
  intro i lo lc r _ hi h1 h2 h
  refine Ev.succ (fun N => S_graph_Of_39_eq N _ _ _ _ _ _ _ _ _ _ _ _ _ _ _ _ _ _ _ _ _ _ _ _ _ _ _ _ _) (Ev.cond_t (decide_eq_true (by omega)) (Ev.succ (fun N => S_graph_Of_40_eq N _ _ _ _ _ _ _ _ _ _ _ _ _ _ _ _ _ _ _ _ _ _ _ _ _ _ _ _ _) ?_))
  cases hk : key with
  | true =>
    subst hk
    simp only [c39, if_true, List.length_append, List.length_cons, List.length_nil] at h2
    refine Ev.cond_t rfl (Ev.cond_t (lt_bound (by simpa using h2) (Nat.le_refl _)) (Ev.succ (fun N => S_graph_Of_43_eq N _ _ _ _ _ _ _ _ _ _ _ _ _ _ _ _ _ _ _ _ _ _ _ _ _ _ _ _ _) ?_))
    rw [W_add (by omega), W_add (by omega), W_succ (by omega), encChs_snoc]
    unfold D_39 at h
    simpa only [c39, if_true, List.length_append, List.length_cons, List.length_nil] using h
  | false =>
    subst hk
    refine Ev.cond_f rfl (Ev.succ (fun N => S_graph_Of_43_eq N _ _ _ _ _ _ _ _ _ _ _ _ _ _ _ _ _ _ _ _ _ _ _ _ _ _ _ _ _) ?_)
    rw [W_succ (by omega)]
    unfold D_39 at h
    simpa [c39] using h
noncomputable abbrev D_36 (p m sp fi si no : Nat) (co : List V) (i : Nat) (_ : List OpT) (lc : List ChT) (N : Nat) : Option V := S_graph_Of_36 N p sp fi si m i a1 a2 a3 a4 a5 n a7 jn a9 a10 a11 a12 a13 key lt no lc.length room co (encChs room lc)
theorem g_36 (p m sp fi si no : Nat) (co : List V) (hp : p ≤ 1000) (hm : m ≤ 1000) (hs : sp ≤ 1000) (hf : fi ≤ 1000) : ∀ (i : Nat) (lo : List OpT) (lc : List ChT) (r : V), 0 ≤ i → i < m → (lo ++ ([] : List OpT)).length ≤ 1000 → (lc ++ (List.range' 0 p).flatMap (c39 key sp fi i)).length ≤ 1000 →
    Ev (D_36 a1 a2 a3 a4 a5 n a7 jn a9 a10 a11 a12 a13 key lt room p m sp fi si no co (i + 1) (lo ++ []) (lc ++ (List.range' 0 p).flatMap (c39 key sp fi i))) r →
    Ev (D_36 a1 a2 a3 a4 a5 n a7 jn a9 a10 a11 a12 a13 key lt room p m sp fi si no co i lo lc) r := by
  intro i lo lc r _ hi h1 h2 h
  refine Ev.succ (fun N => S_graph_Of_36_eq N _ _ _ _ _ _ _ _ _ _ _ _ _ _ _ _ _ _ _ _ _ _ _ _ _ _) (Ev.cond_t (decide_eq_true (by omega)) (Ev.succ (fun N => S_graph_Of_37_eq N _ _ _ _ _ _ _ _ _ _ _ _ _ _ _ _ _ _ _ _ _ _ _ _ _ _) ?_))
  refine phase (fo := fun _ => []) (fc := c39 key sp fi i) (a := 0) (b := p) (g_39 a1 a2 a3 a4 a5 n a7 jn a9 a10 a11 a12 a13 key lt room p m sp fi si no i co hp hs hf (by omega)) p 0 [] lc r (Nat.le_refl _) (by omega) (by rw [flat_nil]; simp) h2 ?_
  refine Ev.succ (fun N => S_graph_Of_39_eq N _ _ _ _ _ _ _ _ _ _ _ _ _ _ _ _ _ _ _ _ _ _ _ _ _ _ _ _ _) (Ev.cond_f (decide_eq_false (by omega)) (Ev.succ (fun N => S_graph_Of_44_eq N _ _ _ _ _ _ _ _ _ _ _ _ _ _ _ _ _ _ _ _ _ _ _ _ _ _) ?_))
  rw [W_succ (by omega)]
  exact h
noncomputable abbrev D_46 (p fi si no : Nat) (co : List V) (i : Nat) (_ : List OpT) (lc : List ChT) (N : Nat) : Option V := S_graph_Of_46 N fi si p i a1 a2 a3 a4 a5 n a7 jn a9 a10 a11 a12 a13 key lt no lc.length room co (encChs room lc)
theorem g_46 (p fi si no : Nat) (co : List V) (hp : p ≤ 1000) (hf : fi ≤ 1000) : ∀ (i : Nat) (lo : List OpT) (lc : List ChT) (r : V), 0 ≤ i → i < p → (lo ++ ([] : List OpT)).length ≤ 1000 → (lc ++ [(fi + i, 0, si, i)]).length ≤ 1000 →
    Ev (D_46 a1 a2 a3 a4 a5 n a7 jn a9 a10 a11 a12 a13 key lt room p fi si no co (i + 1) (lo ++ []) (lc ++ [(fi + i, 0, si, i)])) r →
    Ev (D_46 a1 a2 a3 a4 a5 n a7 jn a9 a10 a11 a12 a13 key lt room p fi si no co i lo lc) r := by
  intro i lo lc r _ hi h1 h2 h
  rw [List.length_append] at h2
  refine Ev.succ (fun N => S_graph_Of_46_eq N _ _ _ _ _ _ _ _ _ _ _ _ _ _ _ _ _ _ _ _ _ _ _ _) (Ev.cond_t (decide_eq_true (by omega)) (Ev.succ (fun N => S_graph_Of_47_eq N _ _ _ _ _ _ _ _ _ _ _ _ _ _ _ _ _ _ _ _ _ _ _ _) (Ev.cond_t (lt_bound (by simpa using h2) (Nat.le_refl _)) ?_)))
  rw [W_succ (by omega), W_add (by omega)]
  have := encChs_snoc room lc (fi + i) 0 si i
  rw [show ((0 : Nat) : Int) = 0 from rfl] at this
  rw [this]
  unfold D_46 at h
  simpa only [List.length_append, List.length_cons, List.length_nil] using h
end

/-! The whole. -/
def gM (key : Bool) (p : Nat) : Nat := if key then p else 1
def gK (jn : Bool) : Nat := if jn then 5 else 4
def one (k : Nat) (i : Nat) : List OpT := [(k, i)]
def l1 (n : Nat) : List OpT := [] ++ (List.range' 0 n).flatMap (one 1)
def l2 (n : Nat) : List OpT := (l1 n ++ [(2, 0)]) ++ (List.range' 1 (n - 1)).flatMap (one 2)
def l3 (n : Nat) (key : Bool) : List OpT := if key then (l2 n ++ [(3, 0)]) ++ (List.range' 1 (n - 1)).flatMap (one 3) else l2 n
def l4 (n p : Nat) (key jn : Bool) : List OpT := (l3 n key ++ [(gK jn, 0)]) ++ (List.range' 1 (gM key p - 1)).flatMap (one (gK jn))
def l5 (n p : Nat) (key jn : Bool) : List OpT := l4 n p key jn ++ [(6, 0)]
def l6 (n p : Nat) (key jn side : Bool) : List OpT := if side then l5 n p key jn ++ [(7, 0)] else l5 n p key jn
def gsp (n : Nat) (key : Bool) : Nat := if key then (l2 n).length else (l1 n).length
def kc1 (n : Nat) : List ChT := [] ++ (List.range' 0 n).flatMap fun i => [(i, 0, (l1 n).length + i, 0)]
def kc2 (n p : Nat) (key jn side : Bool) : List ChT := kc1 n ++ (List.range' 0 n).flatMap (c27 key side (l1 n).length (gsp n key) (l3 n key).length (l4 n p key jn).length)
def kc3 (n p : Nat) (key jn side : Bool) : List ChT := kc2 n p key jn side ++ (List.range' 0 n).flatMap fun i => (List.range' 0 (gM key p)).flatMap (c39 key (gsp n key) (l3 n key).length i)
def kc4 (n p : Nat) (key jn side : Bool) : List ChT := kc3 n p key jn side ++ (List.range' 0 (gM key p)).flatMap fun i => [((l3 n key).length + i, 0, (l4 n p key jn).length, i)]
theorem small_lists : ∀ n, n < 5 → ∀ p, p < 4 → ∀ key jn side, (l6 n p key jn side).length ≤ 100 ∧ (l5 n p key jn).length ≤ 100 ∧ (l3 n key).length ≤ 100 ∧ (kc4 n p key jn side).length ≤ 100 ∧ gsp n key ≤ 100 ∧ (l1 n).length ≤ 100 := by decide +kernel
def graphV (n p : Nat) (key jn side : Bool) (room : Int) : V := .agg [.sl (l6 n p key jn side).length (encOps (l6 n p key jn side)), .sl (kc4 n p key jn side).length (encChs room (kc4 n p key jn side))]

theorem g_50 (n p no : Nat) (key jn : Bool) (a1 : Nat) (a2 : List V) (a3 : Int) (a4 : Nat) (a5 : List V) (a7 : List V) (a9 : Nat) (a10 : List V) (a11 a12 a13 : Int) (lt : Int) (lo : List OpT) (nc : Nat) (cc' : List V) (hl : lo.length ≤ 100) :
    Ev (fun N => S_graph_Of_50 N a1 a2 a3 a4 a5 n a7 jn a9 a10 a11 a12 a13 key lt lo.length nc (encOps lo) cc') (.tup [.agg [.sl (if lt == 2 then lo ++ [(7, 0)] else lo).length (encOps (if lt == 2 then lo ++ [(7, 0)] else lo)), .sl nc cc'], .int .i64 0]) := by
  refine Ev.succ (fun N => S_graph_Of_50_eq N _ _ _ _ _ _ _ _ _ _ _ _ _ _ _ _ _ _ _) ?_
  cases hlt : (lt == 2) with
  | true =>
    refine Ev.cond_t rfl (Ev.succ (fun N => S_graph_Of_1_3_13_eq N _ _ _ _ _ _ _ _ _ _ _ _ _ _ _ _ _ _ _ _ _ _ _ _ _) (Ev.cond_t rfl (Ev.cond_t (lt_bound (m := 1000) (by omega) (Nat.le_refl _)) (Ev.succ (fun N => S_graph_Of_1_3_14_eq N _ _ _ _ _ _ _ _ _ _ _ _ _ _ _ _ _ _ _ _ _ _ _ _ _ _) (Ev.cond_f rfl (Ev.succ (fun N => S_graph_Of_52_eq N _ _ _ _) ?_))))))
    have := encOps_snoc lo 7 0
    rw [show ((0 : Nat) : Int) = 0 from rfl, show ((7 : Nat) : Int) = 7 from rfl] at this
    rw [this]
    simp only [if_true, List.length_append, List.length_cons, List.length_nil]
    exact Ev.some _
  | false => exact Ev.cond_f rfl (Ev.succ (fun N => S_graph_Of_52_eq N _ _ _ _) (Ev.some _))

theorem g_16 (n p m sp fl : Nat) (key jn : Bool) (a1 : Nat) (a2 : List V) (a3 : Int) (a4 : Nat) (a5 : List V) (a7 : List V) (a9 : Nat) (a10 : List V) (a11 a12 a13 : Int) (lt room : Int) (hn : n < 5) (hp : p < 4) (h1 : 1 ≤ p)
    (hm : m = gM key p) (hfl : fl = (l1 n).length) (hsp : sp = gsp n key) :
    Ev (fun N => S_graph_Of_16 N m n fl sp a1 a2 a3 a4 a5 n a7 jn a9 a10 a11 a12 a13 key lt (l3 n key).length 0 room (encOps (l3 n key)) []) (.tup [graphV n p key jn (lt == 2) room, .int .i64 0]) := by
  obtain ⟨b6, b5, b3, bc, bs, b1⟩ := small_lists n hn p hp key jn (lt == 2)
  have hm1 : 1 ≤ m ∧ m ≤ 3 := by rw [hm]; unfold gM; split <;> omega
  -- behind the sink
  have fin : ∀ (lo5 : List OpT), lo5 = l5 n p key jn → Ev (fun N => S_graph_Of_22 N m n fl sp (l3 n key).length (l4 n p key jn).length n (0 : Nat) a1 a2 a3 a4 a5 n a7 jn a9 a10 a11 a12 a13 key lt lo5.length 0 room (encOps lo5) (encChs room [])) (.tup [graphV n p key jn (lt == 2) room, .int .i64 0]) := by
    intro lo5 hlo5
    have bl4 : (l4 n p key jn).length ≤ 100 := by have : (l5 n p key jn).length = (l4 n p key jn).length + 1 := by simp [l5]
                                                  omega
    have e4 : (kc4 n p key jn (lt == 2)).length = (kc3 n p key jn (lt == 2)).length + ((List.range' 0 (gM key p)).flatMap fun i => [((l3 n key).length + i, 0, (l4 n p key jn).length, i)]).length := by unfold kc4; rw [List.length_append]
    have e3 : (kc3 n p key jn (lt == 2)).length = (kc2 n p key jn (lt == 2)).length + ((List.range' 0 n).flatMap fun i => (List.range' 0 (gM key p)).flatMap (c39 key (gsp n key) (l3 n key).length i)).length := by unfold kc3; rw [List.length_append]
    have e2 : (kc2 n p key jn (lt == 2)).length = (kc1 n).length + ((List.range' 0 n).flatMap (c27 key (lt == 2) (l1 n).length (gsp n key) (l3 n key).length (l4 n p key jn).length)).length := by unfold kc2; rw [List.length_append]
    subst hm hfl hsp
    have nl : ∀ i k, (([] : List OpT) ++ (List.range' i k).flatMap (fun _ => ([] : List OpT))).length ≤ 1000 := fun i k => by rw [flat_nil]; simp
    refine phase (fo := fun _ => []) (b := n) (g_22 a1 a2 a3 a4 a5 n a7 jn a9 a10 a11 a12 a13 key lt room (gM key p) n (l1 n).length (gsp n key) (l3 n key).length (l4 n p key jn).length lo5.length (encOps lo5) (by omega) (by omega)) n 0 [] [] _ (Nat.le_refl _) (by omega) (nl _ _) (by show (kc1 n).length ≤ 1000; omega) ?_
    refine Ev.succ (fun N => S_graph_Of_22_eq N _ _ _ _ _ _ _ _ _ _ _ _ _ _ _ _ _ _ _ _ _ _ _ _ _ _ _ _) (Ev.cond_f (decide_eq_false (by omega)) (Ev.succ (fun N => S_graph_Of_26_eq N _ _ _ _ _ _ _ _ _ _ _ _ _ _ _ _ _ _ _ _ _ _ _ _ _ _) ?_))
    refine phase (fo := fun _ => []) (b := n) (g_27 a1 a2 a3 a4 a5 n a7 jn a9 a10 a11 a12 a13 key lt room (gM key p) n (l1 n).length (gsp n key) (l3 n key).length (l4 n p key jn).length lo5.length (encOps lo5) (by omega) (by omega) (by omega) (by omega)) n 0 [] (kc1 n) _ (Nat.le_refl _) (by omega) (nl _ _) (by show (kc2 n p key jn (lt == 2)).length ≤ 1000; omega) ?_
    refine Ev.succ (fun N => S_graph_Of_27_eq N _ _ _ _ _ _ _ _ _ _ _ _ _ _ _ _ _ _ _ _ _ _ _ _ _ _ _ _) (Ev.cond_f (decide_eq_false (by omega)) (Ev.succ (fun N => S_graph_Of_35_eq N _ _ _ _ _ _ _ _ _ _ _ _ _ _ _ _ _ _ _ _ _ _ _ _ _) ?_))
    refine phase (fo := fun _ => []) (b := n) (g_36 a1 a2 a3 a4 a5 n a7 jn a9 a10 a11 a12 a13 key lt room (gM key p) n (gsp n key) (l3 n key).length (l4 n p key jn).length lo5.length (encOps lo5) (by omega) (by omega) (by omega) (by omega)) n 0 [] (kc2 n p key jn (lt == 2)) _ (Nat.le_refl _) (by omega) (nl _ _) (by show (kc3 n p key jn (lt == 2)).length ≤ 1000; omega) ?_
    refine Ev.succ (fun N => S_graph_Of_36_eq N _ _ _ _ _ _ _ _ _ _ _ _ _ _ _ _ _ _ _ _ _ _ _ _ _ _) (Ev.cond_f (decide_eq_false (by omega)) (Ev.succ (fun N => S_graph_Of_45_eq N _ _ _ _ _ _ _ _ _ _ _ _ _ _ _ _ _ _ _ _ _ _ _) ?_))
    refine phase (fo := fun _ => []) (b := gM key p) (g_46 a1 a2 a3 a4 a5 n a7 jn a9 a10 a11 a12 a13 key lt room (gM key p) (l3 n key).length (l4 n p key jn).length lo5.length (encOps lo5) (by omega) (by omega)) (gM key p) 0 [] (kc3 n p key jn (lt == 2)) _ (Nat.le_refl _) (by omega) (nl _ _) (by show (kc4 n p key jn (lt == 2)).length ≤ 1000; omega) ?_
    refine Ev.succ (fun N => S_graph_Of_46_eq N _ _ _ _ _ _ _ _ _ _ _ _ _ _ _ _ _ _ _ _ _ _ _ _) (Ev.cond_f (decide_eq_false (by omega)) ?_)
    subst hlo5
    exact g_50 n p 0 key jn a1 a2 a3 a4 a5 a7 a9 a10 a11 a12 a13 lt (l5 n p key jn) _ _ b5
  -- the parts and the sink
  have bl4 : (l5 n p key jn).length = (l4 n p key jn).length + 1 := by simp [l5]
  have el4 : (l4 n p key jn).length = (l3 n key).length + 1 + ((List.range' 1 (gM key p - 1)).flatMap (one (gK jn))).length := by simp only [l4, List.length_append, List.length_cons, List.length_nil]
  have k19 : ∀ (K : Nat), K = gK jn → Ev (fun N => S_graph_Of_19 N m n fl sp (K : Int) a1 a2 a3 a4 a5 n a7 jn a9 a10 a11 a12 a13 key lt (l3 n key).length 0 room (encOps (l3 n key)) []) (.tup [graphV n p key jn (lt == 2) room, .int .i64 0]) := by
    intro K hK
    refine Ev.succ (fun N => S_graph_Of_19_eq N _ _ _ _ _ _ _ _ _ _ _ _ _ _ _ _ _ _ _ _ _ _ _ _ _) (Ev.succ (fun N => S_graph_Of_1_3_7_eq N _ _ _ _ _ _ _ _ _ _ _ _ _ _ _ _ _ _ _ _ _ _ _ _ _ _ _ _ _ _ _) (Ev.cond_t (decide_eq_true (by omega)) (Ev.cond_t (lt_bound (m := 1000) (by omega) (Nat.le_refl _)) ?_)))
    have e0 := encOps_snoc (l3 n key) K 0
    rw [show ((0 : Nat) : Int) = 0 from rfl] at e0
    rw [e0, show IntKind.wrap IntKind.i64 ((0 : Int) + 1) = ((1 : Nat) : Int) from by decide]
    have ph := phase (fc := fun _ => []) (b := m) (g_1_3_8 a1 a2 a3 a4 a5 n a7 jn a9 a10 a11 a12 a13 key lt room K m (l3 n key).length 0 (encOps (l3 n key)) [] m n fl sp K K m (by omega)) (m - 1) 1 (l3 n key ++ [(K, 0)]) [] (.tup [graphV n p key jn (lt == 2) room, .int .i64 0]) (Nat.zero_le _) (by omega) (by rw [hm, hK]; show (l4 n p key jn).length ≤ 1000; omega) (by rw [flat_nil]; simp) ?_
    · unfold D_1_3_8 at ph
      simpa only [List.length_append, List.length_cons, List.length_nil] using ph
    · have e5 : l3 n key ++ [(K, 0)] ++ (List.range' 1 (m - 1)).flatMap (fun i => [(K, i)]) = l4 n p key jn := by rw [hm, hK]; rfl
      rw [e5]
      refine Ev.succ (fun N => S_graph_Of_1_3_8_eq N _ _ _ _ _ _ _ _ _ _ _ _ _ _ _ _ _ _ _ _ _ _ _ _ _ _ _ _ _ _ _ _) (Ev.cond_f (decide_eq_false (by omega)) (Ev.succ (fun N => S_graph_Of_1_3_10_eq N _ _ _ _ _ _ _ _ _ _ _ _ _ _ _ _ _ _ _ _ _ _ _ _ _ _ _ _ _ _ _ _ _ _) (Ev.cond_t rfl (Ev.cond_t (lt_bound (m := 1000) (by omega) (Nat.le_refl _)) (Ev.succ (fun N => S_graph_Of_1_3_12_eq N _ _ _ _ _ _ _ _ _ _ _ _ _ _ _ _ _ _ _ _ _ _ _ _ _ _ _ _ _ _ _ _ _ _ _) (Ev.cond_f (by decide) ?_))))))
      have e6 := encOps_snoc (l4 n p key jn) 6 0
      rw [show ((0 : Nat) : Int) = 0 from rfl, show ((6 : Nat) : Int) = 6 from rfl] at e6
      rw [e6]
      have := fin (l5 n p key jn) rfl
      simpa only [l5, List.length_append, List.length_cons, List.length_nil, Nat.zero_add, show ((0 : Nat) : Int) = 0 from rfl, show encChs room [] = [] from rfl] using this
  refine Ev.succ (fun N => S_graph_Of_16_eq N _ _ _ _ _ _ _ _ _ _ _ _ _ _ _ _ _ _ _ _ _ _ _ _) ?_
  cases jn with
  | true => exact Ev.cond_t rfl (k19 5 rfl)
  | false => exact Ev.cond_f rfl (k19 4 rfl)

theorem g_6 (n p : Nat) (key jn : Bool) (a1 : Nat) (a2 : List V) (a3 : Int) (a4 : Nat) (a5 : List V) (a7 : List V) (a9 : Nat) (a10 : List V) (a11 a12 a13 : Int) (lt room : Int) (hn : n < 5) (h0 : 1 ≤ n) (hp : p < 4) (h1 : 1 ≤ p) :
    Ev (fun N => S_graph_Of_6 N p a1 a2 a3 a4 a5 n a7 jn a9 a10 a11 a12 a13 key lt room) (.tup [graphV n p key jn (lt == 2) room, .int .i64 0]) := by
  obtain ⟨b6, b5, b3, bc, bs, b1⟩ := small_lists n hn p hp key jn (lt == 2)
  have nl : ∀ i k, (([] : List ChT) ++ (List.range' i k).flatMap (fun _ => ([] : List ChT))).length ≤ 1000 := fun i k => by rw [flat_nil]; simp
  have b2 : (l2 n).length ≤ 100 := by
    have : (l2 n).length ≤ (l3 n key).length := by unfold l3; split <;> simp
    omega
  refine Ev.succ (fun N => S_graph_Of_6_eq N _ _ _ _ _ _ _ _ _ _ _ _ _ _ _ _ _) ?_
  refine phase (fc := fun _ => []) (b := n) (g_1_3 a1 a2 a3 a4 a5 n a7 jn a9 a10 a11 a12 a13 key lt room 1 n 0 p n n a7 n n (by omega)) n 0 [] [] _ (Nat.le_refl _) (by omega) (by show (l1 n).length ≤ 1000; omega) (nl _ _) ?_
  refine Ev.succ (fun N => S_graph_Of_1_3_eq N _ _ _ _ _ _ _ _ _ _ _ _ _ _ _ _ _ _ _ _ _ _ _ _ _ _ _ _) (Ev.cond_f (decide_eq_false (by omega)) (Ev.succ (fun N => S_graph_Of_1_3_1_eq N _ _ _ _ _ _ _ _ _ _ _ _ _ _ _ _ _ _ _ _ _ _ _ _ _ _ _ _ _ _) (Ev.cond_t (decide_eq_true (by omega)) (Ev.cond_t (lt_bound (m := 1000) (by show (l1 n).length + 1 ≤ 1000; omega) (Nat.le_refl _)) ?_))))
  have E1 : [] ++ List.flatMap (fun i => [(1, i)]) (List.range' 0 n) = l1 n := rfl
  rw [E1]
  have e0 := encOps_snoc (l1 n) 2 0
  rw [show ((0 : Nat) : Int) = 0 from rfl, show ((2 : Nat) : Int) = 2 from rfl] at e0
  rw [e0, show IntKind.wrap IntKind.i64 ((0 : Int) + 1) = ((1 : Nat) : Int) from by decide]
  have ph := phase (fc := fun _ => []) (b := n) (g_1_3_2 a1 a2 a3 a4 a5 n a7 jn a9 a10 a11 a12 a13 key lt room 2 n (l1 n).length (encOps (l1 n)) p n n a7 n n 0 n (by omega)) (n - 1) 1 (l1 n ++ [(2, 0)]) [] (.tup [graphV n p key jn (lt == 2) room, .int .i64 0]) (Nat.zero_le _) (by omega) (by show (l2 n).length ≤ 1000; omega) (nl _ _) ?_
  · unfold D_1_3_2 at ph
    simpa only [List.length_append, List.length_cons, List.length_nil, Nat.zero_add, show ((2 : Nat) : Int) = 2 from rfl] using ph
  have E2 : l1 n ++ [(2, 0)] ++ List.flatMap (fun i => [(2, i)]) (List.range' 1 (n - 1)) = l2 n := rfl
  rw [E2]
  refine Ev.succ (fun N => S_graph_Of_1_3_2_eq N _ _ _ _ _ _ _ _ _ _ _ _ _ _ _ _ _ _ _ _ _ _ _ _ _ _ _ _ _ _ _) (Ev.cond_f (decide_eq_false (by omega)) ?_)
  cases key with
  | false =>
    refine Ev.cond_f rfl ?_
    exact g_16 n p 1 _ _ false jn a1 a2 a3 a4 a5 a7 a9 a10 a11 a12 a13 lt room hn hp h1 rfl rfl rfl
  | true =>
    refine Ev.cond_t rfl (Ev.succ (fun N => S_graph_Of_1_3_4_eq N _ _ _ _ _ _ _ _ _ _ _ _ _ _ _ _ _ _ _ _ _ _ _ _ _ _ _ _ _ _ _ _ _ _ _ _ _) (Ev.cond_t (decide_eq_true (by omega)) (Ev.cond_t (lt_bound (m := 1000) (by omega) (Nat.le_refl _)) ?_)))
    have e1 := encOps_snoc (l2 n) 3 0
    rw [show ((0 : Nat) : Int) = 0 from rfl, show ((3 : Nat) : Int) = 3 from rfl] at e1
    rw [e1, show IntKind.wrap IntKind.i64 ((0 : Int) + 1) = ((1 : Nat) : Int) from by decide]
    have ph := phase (fc := fun _ => []) (b := n) (g_1_3_6 a1 a2 a3 a4 a5 n a7 jn a9 a10 a11 a12 a13 true lt room 3 n (l2 n).length (encOps (l1 n)) (encOps (l2 n)) p n (l1 n).length (l1 n).length n a7 n n 0 n (l1 n).length (l1 n).length true n (by omega)) (n - 1) 1 (l2 n ++ [(3, 0)]) [] (.tup [graphV n p true jn (lt == 2) room, .int .i64 0]) (Nat.zero_le _) (by omega) (by show (l3 n true).length ≤ 1000; omega) (nl _ _) ?_
    · unfold D_1_3_6 at ph
      simpa only [List.length_append, List.length_cons, List.length_nil, Nat.zero_add, show ((3 : Nat) : Int) = 3 from rfl] using ph
    have E3 : l2 n ++ [(3, 0)] ++ List.flatMap (fun i => [(3, i)]) (List.range' 1 (n - 1)) = l3 n true := rfl
    rw [E3]
    refine Ev.succ (fun N => S_graph_Of_1_3_6_eq N _ _ _ _ _ _ _ _ _ _ _ _ _ _ _ _ _ _ _ _ _ _ _ _ _ _ _ _ _ _ _ _ _ _ _ _ _ _) (Ev.cond_f (decide_eq_false (by omega)) ?_)
    exact g_16 n p p _ _ true jn a1 a2 a3 a4 a5 a7 a9 a10 a11 a12 a13 lt room hn hp h1 rfl rfl rfl

/-- What graph.Of returns of a right plan. -/
theorem graph_Of {q : Query} (hq : QOk q) (hc : (checkRes q).2 = 0) (hs : 1 ≤ q.sources.length ∧ q.sources.length < 5) (p room : Int) :
    Ev (fun N => call cc N n_graph_Of [.agg (encPlan q), .int .i64 p, .int .i64 room])
      (if p < 1 ∨ 3 < p ∨ room < 1 ∨ 8 < room then .tup [.agg [.sl 0 [], .sl 0 []], .int .i64 2] else .tup [graphV q.sources.length p.toNat q.byKey q.join (q.late == 2) room, .int .i64 0]) := by
  have h := plan_Check hq
  unfold encPlan encQ at h ⊢
  refine Ev.succ (fun N => F_graph_Of N _ _ _ _ _ _ _ _ _ _ _ _ _ _ _ _ _) (Ev.bind h (Ev.cond_t rfl (Ev.cond_f ?_ (Ev.succ (fun N => S_graph_Of_4_eq N _ _ _ _ _ _ _ _ _ _ _ _ _ _ _ _ _) ?_))))
  · rw [hc]; rfl
  by_cases g1 : p < 1
  · rw [if_pos (by omega)]; exact Ev.cond_t (decide_eq_true g1) (Ev.some _)
  refine Ev.cond_f (decide_eq_false g1) ?_
  by_cases g2 : p > 3
  · rw [if_pos (by omega)]; exact Ev.cond_t (decide_eq_true g2) (Ev.some _)
  refine Ev.cond_f (decide_eq_false g2) ?_
  by_cases g3 : room < 1
  · rw [if_pos (by omega)]; exact Ev.cond_t (decide_eq_true g3) (Ev.some _)
  refine Ev.cond_f (decide_eq_false g3) ?_
  by_cases g4 : room > 8
  · rw [if_pos (by omega)]; exact Ev.cond_t (decide_eq_true g4) (Ev.some _)
  refine Ev.cond_f (decide_eq_false g4) ?_
  rw [if_neg (by omega)]
  obtain ⟨p, rfl⟩ : ∃ p' : Nat, p = p' := ⟨p.toNat, by omega⟩
  exact g_6 q.sources.length p q.byKey q.join _ _ _ _ _ _ _ _ _ _ _ q.late room hs.2 hs.1 (by omega) (by omega)
end Go.Pv

/- Graphs: ref24.Made. -/
namespace Go.Pv

section
variable (a1 : Nat) (a2 : List V) (a3 : Int) (a4 : Nat) (a5 : List V) (n : Nat) (a7 : List V) (jn : Bool) (a9 : Nat) (a10 : List V) (a11 a12 a13 : Int) (ky : Bool) (lt : Int) (room : Int) (p pt sk : Nat) (key side : Bool)

noncomputable abbrev M12 (i : Nat) (lo : List OpT) (lc : List ChT) (N : Nat) : Option V := S_ref24_Made_12 N p room n key side pt sk i a1 a2 a3 a4 a5 n a7 jn a9 a10 a11 a12 a13 ky lt lo.length lc.length (encOps lo) (encChs room lc)

theorem m_A (hn : n ≤ 1000) (h : n ≤ sk) : ∀ (i : Nat) (lo : List OpT) (lc : List ChT) (r : V), 0 ≤ i → i < n → (lo ++ [(1, i)]).length ≤ 1000 → (lc ++ [(i, 0, n + i, 0)]).length ≤ 1000 →
    Ev (M12 a1 a2 a3 a4 a5 n a7 jn a9 a10 a11 a12 a13 ky lt room p pt sk key side (i + 1) (lo ++ [(1, i)]) (lc ++ [(i, 0, n + i, 0)])) r → Ev (M12 a1 a2 a3 a4 a5 n a7 jn a9 a10 a11 a12 a13 ky lt room p pt sk key side i lo lc) r := by
  intro i lo lc r _ hi h1 h2 h
  unfold M12 at h
  rw [List.length_append] at h1 h2 h
  rw [List.length_append] at h
  refine Ev.succ (fun N => S_ref24_Made_12_eq N _ _ _ _ _ _ _ _ _ _ _ _ _ _ _ _ _ _ _ _ _ _ _ _ _ _ _) (Ev.cond_t (decide_eq_true (by omega)) (Ev.succ (fun N => S_ref24_Made_15_eq N _ _ _ _ _ _ _ _ _ _ _ _ _ _ _ _ _ _ _ _ _ _ _ _ _ _ _) (Ev.cond_t (decide_eq_true (by omega)) (Ev.cond_t (lt_bound (by simpa using h1) (Nat.le_refl _)) (Ev.cond_t (lt_bound (by simpa using h2) (Nat.le_refl _)) (Ev.succ (fun N => S_ref24_Made_13_eq N _ _ _ _ _ _ _ _ _ _ _ _ _ _ _ _ _ _ _ _ _ _ _ _ _ _ _) ?_))))))
  rw [W_succ (by omega), W_add (by omega)]
  have e1 := encOps_snoc lo 1 i
  have e2 := encChs_snoc room lc i 0 (n + i) 0
  rw [show ((1 : Nat) : Int) = 1 from rfl] at e1
  rw [show ((0 : Nat) : Int) = 0 from rfl] at e2
  rw [e1, e2]
  exact h

def cB (key side : Bool) (n pt sk i : Nat) : List ChT := (if key then (i, 0, n + i, 0) else (i, 0, pt, i - n)) :: (if side then [(i, 1, sk + 1, i - n)] else [])
theorem m_B (hn : n ≤ 1000) (hp : pt ≤ 1000) (hs : sk ≤ 1000) (h : 2 * n ≤ sk) : ∀ (i : Nat) (lo : List OpT) (lc : List ChT) (r : V), n ≤ i → i < 2 * n → (lo ++ [(2, i - n)]).length ≤ 1000 → (lc ++ cB key side n pt sk i).length ≤ 1000 →
    Ev (M12 a1 a2 a3 a4 a5 n a7 jn a9 a10 a11 a12 a13 ky lt room p pt sk key side (i + 1) (lo ++ [(2, i - n)]) (lc ++ cB key side n pt sk i)) r → Ev (M12 a1 a2 a3 a4 a5 n a7 jn a9 a10 a11 a12 a13 ky lt room p pt sk key side i lo lc) r := by
  intro i lo lc r hi0 hi h1 h2 h
  unfold M12 at h
  rw [List.length_append] at h1
  refine Ev.succ (fun N => S_ref24_Made_12_eq N _ _ _ _ _ _ _ _ _ _ _ _ _ _ _ _ _ _ _ _ _ _ _ _ _ _ _) (Ev.cond_t (decide_eq_true (by omega)) (Ev.succ (fun N => S_ref24_Made_15_eq N _ _ _ _ _ _ _ _ _ _ _ _ _ _ _ _ _ _ _ _ _ _ _ _ _ _ _) (Ev.cond_f (decide_eq_false (by omega)) ?_)))
  rw [W_two (by omega)]
  refine Ev.cond_t (decide_eq_true (by omega)) (Ev.cond_t (lt_bound (by simpa using h1) (Nat.le_refl _)) ?_)
  rw [W_sub (by omega) (by omega), W_add (by omega)]
  have e1 := encOps_snoc lo 2 (i - n)
  rw [show ((2 : Nat) : Int) = 2 from rfl] at e1
  rw [e1]
  have tail : ∀ (x : ChT), cB key side n pt sk i = x :: (if side then [(i, 1, sk + 1, i - n)] else []) →
      Ev (fun N => S_ref24_Made_23 N p room n key side pt sk i a1 a2 a3 a4 a5 n a7 jn a9 a10 a11 a12 a13 ky lt (lo.length + 1) lc.length (x.1 : Int) (x.2.1 : Int) (x.2.2.1 : Int) (x.2.2.2 : Int) room (encOps (lo ++ [(2, i - n)])) (encChs room lc)) r := by
    intro x hx
    rw [hx] at h h2
    have hb : lc.length + 2 ≤ 1000 ∨ side = false := by
      cases side with
      | true => left; simp only [List.length_append, List.length_cons, List.length_nil, if_true] at h2; omega
      | false => right; rfl
    have hb1 : lc.length + 1 ≤ 1000 := by simp only [List.length_append, List.length_cons] at h2; omega
    refine Ev.succ (fun N => S_ref24_Made_23_eq N _ _ _ _ _ _ _ _ _ _ _ _ _ _ _ _ _ _ _ _ _ _ _ _ _ _ _ _ _ _ _ _) (Ev.cond_t (lt_bound (m := 1000) hb1 (Nat.le_refl _)) ?_)
    have e2 := encChs_snoc room lc x.1 x.2.1 x.2.2.1 x.2.2.2
    cases side with
    | true =>
      have hb2 : lc.length + 1 + 1 ≤ 1000 := hb.elim id (fun hx => by cases hx)
      refine Ev.cond_t rfl (Ev.cond_t (lt_bound (m := 1000) hb2 (Nat.le_refl _)) (Ev.succ (fun N => S_ref24_Made_13_eq N _ _ _ _ _ _ _ _ _ _ _ _ _ _ _ _ _ _ _ _ _ _ _ _ _ _ _) ?_))
      show Ev (fun N => S_ref24_Made_12 N _ _ _ _ _ _ _ _ _ _ _ _ _ _ _ _ _ _ _ _ _ _ _ _ _ _ ((encChs room lc ++ _) ++ _)) _
      rw [e2, W_succ (by omega), W_succ (by omega), W_sub (by omega) (by omega)]
      have e3 := encChs_snoc room (lc ++ [x]) i 1 (sk + 1) (i - n)
      rw [show ((1 : Nat) : Int) = 1 from rfl] at e3
      rw [e3]
      simpa [List.append_assoc, Nat.add_assoc] using h
    | false =>
      refine Ev.cond_f rfl (Ev.succ (fun N => S_ref24_Made_13_eq N _ _ _ _ _ _ _ _ _ _ _ _ _ _ _ _ _ _ _ _ _ _ _ _ _ _ _) ?_)
      rw [e2, W_succ (by omega)]
      simpa using h
  cases key with
  | true => exact Ev.cond_t rfl (tail (i, 0, n + i, 0) rfl)
  | false => exact Ev.cond_f rfl (tail (i, 0, pt, i - n) rfl)

noncomputable abbrev M29 (i no : Nat) (co : List V) (k : Nat) (_ : List OpT) (lc : List ChT) (N : Nat) : Option V := S_ref24_Made_29 N p room n key side pt sk i k a1 a2 a3 a4 a5 n a7 jn a9 a10 a11 a12 a13 ky lt no lc.length co (encChs room lc)
theorem m_29 (i no : Nat) (co : List V) (hn : n ≤ 1000) (hp : p ≤ 1000) (hpt : pt ≤ 1000) (hi : 2 * n ≤ i) (hi' : i ≤ 10000) : ∀ (k : Nat) (lo : List OpT) (lc : List ChT) (r : V), 0 ≤ k → k < p → (lo ++ ([] : List OpT)).length ≤ 1000 → (lc ++ [(i, k, pt + k, i - 2 * n)]).length ≤ 1000 →
    Ev (M29 a1 a2 a3 a4 a5 n a7 jn a9 a10 a11 a12 a13 ky lt room p pt sk key side i no co (k + 1) (lo ++ []) (lc ++ [(i, k, pt + k, i - 2 * n)])) r → Ev (M29 a1 a2 a3 a4 a5 n a7 jn a9 a10 a11 a12 a13 ky lt room p pt sk key side i no co k lo lc) r := by
  intro k lo lc r _ hk h1 h2 h
  unfold M29 at h
  rw [List.length_append] at h2 h
  refine Ev.succ (fun N => S_ref24_Made_29_eq N _ _ _ _ _ _ _ _ _ _ _ _ _ _ _ _ _ _ _ _ _ _ _ _ _ _ _ _) (Ev.cond_t (decide_eq_true (by omega)) (Ev.succ (fun N => S_ref24_Made_31_eq N _ _ _ _ _ _ _ _ _ _ _ _ _ _ _ _ _ _ _ _ _ _ _ _ _ _ _ _) (Ev.cond_t (lt_bound (by simpa using h2) (Nat.le_refl _)) ?_)))
  rw [W_two (by omega), W_sub (by omega) (by omega), W_add (by omega), W_succ (by omega), encChs_snoc]
  exact h
theorem m_C (hn : n ≤ 1000) (hp : p ≤ 1000) (hpt : pt ≤ 1000) (hs : sk ≤ 1000) (h : pt ≤ sk) : ∀ (i : Nat) (lo : List OpT) (lc : List ChT) (r : V), 2 * n ≤ i → i < pt → (lo ++ [(3, i - 2 * n)]).length ≤ 1000 → (lc ++ (List.range' 0 p).flatMap fun k => [(i, k, pt + k, i - 2 * n)]).length ≤ 1000 →
    Ev (M12 a1 a2 a3 a4 a5 n a7 jn a9 a10 a11 a12 a13 ky lt room p pt sk key side (i + 1) (lo ++ [(3, i - 2 * n)]) (lc ++ (List.range' 0 p).flatMap fun k => [(i, k, pt + k, i - 2 * n)])) r → Ev (M12 a1 a2 a3 a4 a5 n a7 jn a9 a10 a11 a12 a13 ky lt room p pt sk key side i lo lc) r := by
  intro i lo lc r hi0 hi h1 h2 h
  unfold M12 at h
  rw [List.length_append] at h1
  refine Ev.succ (fun N => S_ref24_Made_12_eq N _ _ _ _ _ _ _ _ _ _ _ _ _ _ _ _ _ _ _ _ _ _ _ _ _ _ _) (Ev.cond_t (decide_eq_true (by omega)) (Ev.succ (fun N => S_ref24_Made_15_eq N _ _ _ _ _ _ _ _ _ _ _ _ _ _ _ _ _ _ _ _ _ _ _ _ _ _ _) (Ev.cond_f (decide_eq_false (by omega)) ?_)))
  rw [W_two (by omega)]
  refine Ev.cond_f (decide_eq_false (by omega)) (Ev.cond_t (decide_eq_true (by omega)) (Ev.cond_t (lt_bound (by simpa using h1) (Nat.le_refl _)) ?_))
  rw [W_sub (by omega) (by omega)]
  have e1 := encOps_snoc lo 3 (i - 2 * n)
  rw [show ((3 : Nat) : Int) = 3 from rfl] at e1
  rw [e1]
  refine phase (fo := fun _ => []) (b := p) (m_29 a1 a2 a3 a4 a5 n a7 jn a9 a10 a11 a12 a13 ky lt room p pt sk key side i (lo.length + 1) (encOps (lo ++ [(3, i - 2 * n)])) hn hp hpt hi0 (by omega)) p 0 [] lc r (Nat.le_refl _) (by omega) (by rw [flat_nil]; simp) h2 ?_
  refine Ev.succ (fun N => S_ref24_Made_29_eq N _ _ _ _ _ _ _ _ _ _ _ _ _ _ _ _ _ _ _ _ _ _ _ _ _ _ _ _) (Ev.cond_f (decide_eq_false (by omega)) (Ev.succ (fun N => S_ref24_Made_13_eq N _ _ _ _ _ _ _ _ _ _ _ _ _ _ _ _ _ _ _ _ _ _ _ _ _ _ _) ?_))
  rw [W_succ (by omega)]
  have el : (lo ++ [(3, i - 2 * n)]).length = lo.length + 1 := by simp
  rw [el] at h
  exact h
theorem m_D (hn : n ≤ 1000) (hs : sk ≤ 1000) (h : 2 * n ≤ pt) : ∀ (i : Nat) (lo : List OpT) (lc : List ChT) (r : V), pt ≤ i → i < sk → (lo ++ [(gK jn, i - pt)]).length ≤ 1000 → (lc ++ [(i, 0, sk, i - pt)]).length ≤ 1000 →
    Ev (M12 a1 a2 a3 a4 a5 n a7 jn a9 a10 a11 a12 a13 ky lt room p pt sk key side (i + 1) (lo ++ [(gK jn, i - pt)]) (lc ++ [(i, 0, sk, i - pt)])) r → Ev (M12 a1 a2 a3 a4 a5 n a7 jn a9 a10 a11 a12 a13 ky lt room p pt sk key side i lo lc) r := by
  intro i lo lc r hi0 hi h1 h2 h
  unfold M12 at h
  rw [List.length_append] at h1 h2 h
  rw [List.length_append] at h
  refine Ev.succ (fun N => S_ref24_Made_12_eq N _ _ _ _ _ _ _ _ _ _ _ _ _ _ _ _ _ _ _ _ _ _ _ _ _ _ _) (Ev.cond_t (decide_eq_true (by omega)) (Ev.succ (fun N => S_ref24_Made_15_eq N _ _ _ _ _ _ _ _ _ _ _ _ _ _ _ _ _ _ _ _ _ _ _ _ _ _ _) (Ev.cond_f (decide_eq_false (by omega)) ?_)))
  rw [W_two (by omega)]
  refine Ev.cond_f (decide_eq_false (by omega)) (Ev.cond_f (decide_eq_false (by omega)) (Ev.cond_t (decide_eq_true (by omega)) ?_))
  have k36 : ∀ K : Nat, K = gK jn → Ev (fun N => S_ref24_Made_36 N p room n key side pt sk i (K : Int) a1 a2 a3 a4 a5 n a7 jn a9 a10 a11 a12 a13 ky lt lo.length lc.length (encOps lo) (encChs room lc)) r := by
    intro K hK
    refine Ev.succ (fun N => S_ref24_Made_36_eq N _ _ _ _ _ _ _ _ _ _ _ _ _ _ _ _ _ _ _ _ _ _ _ _ _ _ _ _) (Ev.cond_t (lt_bound (by simpa using h1) (Nat.le_refl _)) (Ev.cond_t (lt_bound (by simpa using h2) (Nat.le_refl _)) (Ev.succ (fun N => S_ref24_Made_13_eq N _ _ _ _ _ _ _ _ _ _ _ _ _ _ _ _ _ _ _ _ _ _ _ _ _ _ _) ?_)))
    rw [W_sub (by omega) (by omega), W_succ (by omega)]
    have e2 := encChs_snoc room lc i 0 sk (i - pt)
    rw [show ((0 : Nat) : Int) = 0 from rfl] at e2
    rw [encOps_snoc, e2, hK]
    exact h
  cases jn with
  | true => exact Ev.cond_t rfl (k36 5 rfl)
  | false => exact Ev.cond_f rfl (k36 4 rfl)
end

/-! The whole. -/
def gP (n : Nat) (key : Bool) : Nat := if key then 3 * n else 2 * n
def r1 (n : Nat) : List OpT := [] ++ (List.range' 0 n).flatMap fun i => [(1, i)]
def r2 (n : Nat) : List OpT := r1 n ++ (List.range' n n).flatMap fun i => [(2, i - n)]
def r3 (n : Nat) (key : Bool) : List OpT := r2 n ++ (List.range' (2 * n) (gP n key - 2 * n)).flatMap fun i => [(3, i - 2 * n)]
def r4 (n p : Nat) (key jn : Bool) : List OpT := r3 n key ++ (List.range' (gP n key) (gM key p)).flatMap fun i => [(gK jn, i - gP n key)]
def s1 (n : Nat) : List ChT := [] ++ (List.range' 0 n).flatMap fun i => [(i, 0, n + i, 0)]
def s2 (n p : Nat) (key side : Bool) : List ChT := s1 n ++ (List.range' n n).flatMap (cB key side n (gP n key) (gP n key + gM key p))
def s3 (n p : Nat) (key side : Bool) : List ChT := s2 n p key side ++ (List.range' (2 * n) (gP n key - 2 * n)).flatMap fun i => (List.range' 0 (gM key p)).flatMap fun k => [(i, k, gP n key + k, i - 2 * n)]
def s4 (n p : Nat) (key side : Bool) : List ChT := s3 n p key side ++ (List.range' (gP n key) (gM key p)).flatMap fun i => [(i, 0, gP n key + gM key p, i - gP n key)]
def chk (n p : Nat) (key jn side : Bool) : Bool := decide ((if side then (r4 n p key jn ++ [(6, 0)]) ++ [(7, 0)] else r4 n p key jn ++ [(6, 0)]) = l6 n p key jn side) && (decide (s4 n p key side = kc4 n p key jn side) && (decide ((r4 n p key jn).length ≤ 100) && decide ((s4 n p key side).length ≤ 100)))
theorem chk_all : ∀ n, n < 5 → ∀ p, p < 4 → ∀ key jn side, (n == 0 || (p == 0 || chk n p key jn side)) = true := by decide +kernel
theorem same_lists (n : Nat) (hn : n < 5) (h0 : 1 ≤ n) (p : Nat) (hp : p < 4) (h1 : 1 ≤ p) (key jn side : Bool) : (if side then (r4 n p key jn ++ [(6, 0)]) ++ [(7, 0)] else r4 n p key jn ++ [(6, 0)]) = l6 n p key jn side ∧ s4 n p key side = kc4 n p key jn side ∧ (r4 n p key jn).length ≤ 100 ∧ (s4 n p key side).length ≤ 100 := by
  have h := chk_all n hn p hp key jn side
  rw [show (n == 0) = false from beq_eq_false_iff_ne.2 (by omega), show (p == 0) = false from beq_eq_false_iff_ne.2 (by omega), Bool.false_or, Bool.false_or] at h
  unfold chk at h
  simpa only [Bool.and_eq_true, decide_eq_true_eq] using h

theorem made_5 (n p : Nat) (key side jn ky : Bool) (a1 : Nat) (a2 : List V) (a3 : Int) (a4 : Nat) (a5 : List V) (a7 : List V) (a9 : Nat) (a10 : List V) (a11 a12 a13 : Int) (lt room : Int) (hn : n < 5) (h0 : 1 ≤ n) (hp : p < 4) (h1 : 1 ≤ p) :
    Ev (fun N => S_ref24_Made_5 N (gM key p : Nat) room n key side a1 a2 a3 a4 a5 n a7 jn a9 a10 a11 a12 a13 ky lt) (graphV n p key jn side room) := by
  obtain ⟨e1, e2, b1, b2⟩ := same_lists n hn h0 p hp h1 key jn side
  have hm : 1 ≤ gM key p ∧ gM key p ≤ 3 := by unfold gM; split <;> omega
  have hg : 2 * n ≤ gP n key ∧ gP n key ≤ 12 := by unfold gP; split <;> omega
  have q4 : (r4 n p key jn).length = (r3 n key).length + ((List.range' (gP n key) (gM key p)).flatMap fun i => [(gK jn, i - gP n key)]).length := by unfold r4; rw [List.length_append]
  have q3 : (r3 n key).length = (r2 n).length + ((List.range' (2 * n) (gP n key - 2 * n)).flatMap fun i => [(3, i - 2 * n)]).length := by unfold r3; rw [List.length_append]
  have q2 : (r2 n).length = (r1 n).length + ((List.range' n n).flatMap fun i => [(2, i - n)]).length := by unfold r2; rw [List.length_append]
  have t4 : (s4 n p key side).length = (s3 n p key side).length + ((List.range' (gP n key) (gM key p)).flatMap fun i => [(i, 0, gP n key + gM key p, i - gP n key)]).length := by unfold s4; rw [List.length_append]
  have t3 : (s3 n p key side).length = (s2 n p key side).length + ((List.range' (2 * n) (gP n key - 2 * n)).flatMap fun i => (List.range' 0 (gM key p)).flatMap fun k => [(i, k, gP n key + k, i - 2 * n)]).length := by unfold s3; rw [List.length_append]
  have t2 : (s2 n p key side).length = (s1 n).length + ((List.range' n n).flatMap (cB key side n (gP n key) (gP n key + gM key p))).length := by unfold s2; rw [List.length_append]
  have fin : Ev (M12 a1 a2 a3 a4 a5 n a7 jn a9 a10 a11 a12 a13 ky lt room (gM key p) (gP n key) (gP n key + gM key p) key side (gP n key + gM key p) (r4 n p key jn) (s4 n p key side)) (graphV n p key jn side room) := by
    refine Ev.succ (fun N => S_ref24_Made_12_eq N _ _ _ _ _ _ _ _ _ _ _ _ _ _ _ _ _ _ _ _ _ _ _ _ _ _ _) (Ev.cond_t (decide_eq_true (by omega)) (Ev.succ (fun N => S_ref24_Made_15_eq N _ _ _ _ _ _ _ _ _ _ _ _ _ _ _ _ _ _ _ _ _ _ _ _ _ _ _) (Ev.cond_f (decide_eq_false (by omega)) ?_)))
    rw [W_two (by omega)]
    refine Ev.cond_f (decide_eq_false (by omega)) (Ev.cond_f (decide_eq_false (by omega)) (Ev.cond_f (decide_eq_false (by omega)) (Ev.cond_t (lt_bound (m := 1000) (by omega) (Nat.le_refl _)) (Ev.succ (fun N => S_ref24_Made_13_eq N _ _ _ _ _ _ _ _ _ _ _ _ _ _ _ _ _ _ _ _ _ _ _ _ _ _ _) ?_))))
    rw [W_succ (by omega)]
    refine Ev.succ (fun N => S_ref24_Made_12_eq N _ _ _ _ _ _ _ _ _ _ _ _ _ _ _ _ _ _ _ _ _ _ _ _ _ _ _) (Ev.cond_f (decide_eq_false (by omega)) (Ev.succ (fun N => S_ref24_Made_38_eq N _ _ _ _ _) ?_))
    have f1 := encOps_snoc (r4 n p key jn) 6 0
    rw [show ((0 : Nat) : Int) = 0 from rfl, show ((6 : Nat) : Int) = 6 from rfl] at f1
    rw [f1]
    unfold graphV
    rw [← e1, ← e2]
    cases side with
    | true =>
      refine Ev.cond_t rfl (Ev.cond_t (lt_bound (m := 1000) (by omega) (Nat.le_refl _)) (Ev.succ (fun N => S_ref24_Made_40_eq N _ _ _ _) ?_))
      have f2 := encOps_snoc (r4 n p key jn ++ [(6, 0)]) 7 0
      rw [show ((0 : Nat) : Int) = 0 from rfl, show ((7 : Nat) : Int) = 7 from rfl] at f2
      rw [f2]
      simp only [if_true, List.length_append, List.length_cons, List.length_nil]
      exact Ev.some _
    | false =>
      refine Ev.cond_f rfl (Ev.succ (fun N => S_ref24_Made_40_eq N _ _ _ _) ?_)
      simp only [Bool.false_eq_true, if_false, List.length_append, List.length_cons, List.length_nil]
      exact Ev.some _
  have start : Ev (M12 a1 a2 a3 a4 a5 n a7 jn a9 a10 a11 a12 a13 ky lt room (gM key p) (gP n key) (gP n key + gM key p) key side 0 [] []) (graphV n p key jn side room) := by
    refine phase (b := n) (m_A a1 a2 a3 a4 a5 n a7 jn a9 a10 a11 a12 a13 ky lt room (gM key p) (gP n key) (gP n key + gM key p) key side (by omega) (by omega)) n 0 [] [] _ (Nat.le_refl _) (by omega) (by show (r1 n).length ≤ 1000; omega) (by show (s1 n).length ≤ 1000; omega) ?_
    refine phase (b := 2 * n) (m_B a1 a2 a3 a4 a5 n a7 jn a9 a10 a11 a12 a13 ky lt room (gM key p) (gP n key) (gP n key + gM key p) key side (by omega) (by omega) (by omega) (by omega)) n n (r1 n) (s1 n) _ (Nat.le_refl _) (by omega) (by show (r2 n).length ≤ 1000; omega) (by show (s2 n p key side).length ≤ 1000; omega) ?_
    refine phase (b := gP n key) (m_C a1 a2 a3 a4 a5 n a7 jn a9 a10 a11 a12 a13 ky lt room (gM key p) (gP n key) (gP n key + gM key p) key side (by omega) (by omega) (by omega) (by omega) (by omega)) (gP n key - 2 * n) (2 * n) (r2 n) (s2 n p key side) _ (Nat.le_refl _) (by omega) (by show (r3 n key).length ≤ 1000; omega) (by show (s3 n p key side).length ≤ 1000; omega) ?_
    exact phase (b := gP n key + gM key p) (m_D a1 a2 a3 a4 a5 n a7 jn a9 a10 a11 a12 a13 ky lt room (gM key p) (gP n key) (gP n key + gM key p) key side (by omega) (by omega) (by omega)) (gM key p) (gP n key) (r3 n key) (s3 n p key side) _ (Nat.le_refl _) (by omega) (by show (r4 n p key jn).length ≤ 1000; omega) (by show (s4 n p key side).length ≤ 1000; omega) fin
  refine Ev.succ (fun N => S_ref24_Made_5_eq N _ _ _ _ _ _ _ _ _ _ _ _ _ _ _ _ _ _ _ _) ?_
  cases key with
  | true =>
    refine Ev.cond_t rfl (Ev.succ (fun N => S_ref24_Made_8_eq N _ _ _ _ _ _ _ _ _ _ _ _ _ _ _ _ _ _ _ _ _) ?_)
    rw [W_two (by omega), W_add (by omega), W_add (by unfold gM; simp; omega), show 2 * n + n = gP n true from by unfold gP; simp; omega]
    exact start
  | false =>
    refine Ev.cond_f rfl (Ev.succ (fun N => S_ref24_Made_8_eq N _ _ _ _ _ _ _ _ _ _ _ _ _ _ _ _ _ _ _ _ _) ?_)
    have := W_add (a := 2 * n) (b := 0) (by omega)
    rw [show ((0 : Nat) : Int) = 0 from rfl] at this
    rw [W_two (by omega), this, W_add (by unfold gM; simp; omega), show 2 * n + 0 = gP n false from by unfold gP; simp]
    exact start

theorem ref24_Made {q : Query} (hs : 1 ≤ q.sources.length ∧ q.sources.length < 5) {p : Nat} (h1 : 1 ≤ p) (h3 : p < 4) (room : Int) :
    Ev (fun N => call cc N n_ref24_Made [.agg (encPlan q), .int .i64 p, .int .i64 room]) (graphV q.sources.length p q.byKey q.join (q.late == 2) room) := by
  have h5 := fun N => ref22_Has q 5 N
  have h10 := fun N => ref22_Has q 10 N
  rw [show ((5 : Nat) : Int) = 5 from rfl] at h5
  rw [show ((10 : Nat) : Int) = 10 from rfl] at h10
  have e5 : qStep q 5 = q.byKey := rfl
  have e10 : qStep q 10 = (q.late == 2) := rfl
  rw [e5] at h5
  rw [e10] at h10
  unfold encPlan encQ at *
  have main := made_5 q.sources.length p q.byKey (q.late == 2) q.join q.byKey (steps q).length (u8s (steps q)) q.agg q.arg.length (encNodes q.arg) (ints q.sources) q.where_.length (encNodes q.where_) q.win.kind q.win.size q.win.every q.late room hs.2 hs.1 h3 h1
  refine Ev.succ (fun N => F_ref24_Made N _ _ _ _ _ _ _ _ _ _ _ _ _ _ _ _ _) (Ev.bind (Ev.of 1 h5) (Ev.cond_t rfl ?_))
  cases hk : q.byKey with
  | true =>
    rw [hk] at main
    rw [hk] at h10
    refine Ev.cond_t rfl (Ev.bind (Ev.of 1 h10) (Ev.cond_t rfl ?_))
    cases hl : (q.late == 2) with
    | true => rw [hl] at main; exact Ev.cond_t rfl main
    | false => rw [hl] at main; exact Ev.cond_f rfl main
  | false =>
    rw [hk] at main
    rw [hk] at h10
    refine Ev.cond_f rfl (Ev.bind (Ev.of 1 h10) (Ev.cond_t rfl ?_))
    cases hl : (q.late == 2) with
    | true => rw [hl] at main; exact Ev.cond_t rfl main
    | false => rw [hl] at main; exact Ev.cond_f rfl main
end Go.Pv

/- Comparisons of what is the same: they answer true. -/
namespace Go.Pv

/-- Rows of one kind. -/
def RowsOk (ks : List CK) (es n : Nat) (c : List V) : Prop := n ≤ 1000 ∧ ∀ i, i < n → okT ks c (i * es) = true
theorem RowsOk.nil (ks : List CK) (es : Nat) (c : List V) : RowsOk ks es 0 c := ⟨by omega, fun i h => absurd h (Nat.not_lt_zero i)⟩

theorem S_ref04_Alike_4_same (n0 : Nat) (c1 : List V) (h : RowsOk [CK.i IntKind.u8, CK.i IntKind.i64, CK.i IntKind.i64, CK.i IntKind.i64, CK.i IntKind.i64] 5 n0 c1) (r : V) (hex : Ev (fun N => some (V.bool true)) r) : ∀ k i : Nat, i + k = n0 → Ev (fun N => S_ref04_Alike_4 N n0 c1 n0 c1 (i : Int)) r
  | 0, i, hi => Ev.succ (fun N => S_ref04_Alike_4_eq N _ _ _ _ _) (Ev.cond_f (decide_eq_false (by omega)) hex)
  | k + 1, i, hi => by
    have hk := h.2 i (by omega)
    have hb := h.1
    have ih := S_ref04_Alike_4_same n0 c1 h r hex k (i + 1) (by omega)
    refine Ev.succ (fun N => S_ref04_Alike_4_eq N _ _ _ _ _) ?_
    simp only [toNat_cast, beq_self_eq_true, bne_self_eq_false, Bool.and_self, Bool.and_true, Bool.not_true, hk, cond_true, cond_false]
    refine Ev.cond_t (decide_eq_true (by omega)) (Ev.cond_t (decide_eq_true (by omega)) (Ev.cond_t (decide_eq_true (by omega)) (Ev.cond_t (decide_eq_true (by omega)) (Ev.cond_t (decide_eq_true (by omega)) ?_))))
    rw [W_succ (by omega)]
    exact ih
theorem ref04_Alike_same (n : Nat) (c : List V) (h : RowsOk [CK.i IntKind.u8, CK.i IntKind.i64, CK.i IntKind.i64, CK.i IntKind.i64, CK.i IntKind.i64] 5 n c) : Ev (fun N => call cc N n_ref04_Alike [.sl n c, .sl n c]) (.bool true) := by
  refine Ev.succ (fun N => F_ref04_Alike N _ _ _ _) (Ev.cond_f (by simp) ?_)
  exact S_ref04_Alike_4_same n c h _ (Ev.some _) n 0 (by omega)

theorem S_ref08_SameSources_4_same (n0 : Nat) (c1 : List V) (h : RowsOk [CK.i IntKind.i64] 1 n0 c1) (r : V) (hex : Ev (fun N => some (V.bool true)) r) : ∀ k i : Nat, i + k = n0 → Ev (fun N => S_ref08_SameSources_4 N n0 c1 n0 c1 (i : Int)) r
  | 0, i, hi => Ev.succ (fun N => S_ref08_SameSources_4_eq N _ _ _ _ _) (Ev.cond_f (decide_eq_false (by omega)) hex)
  | k + 1, i, hi => by
    have hk := h.2 i (by omega)
    have hb := h.1
    have ih := S_ref08_SameSources_4_same n0 c1 h r hex k (i + 1) (by omega)
    refine Ev.succ (fun N => S_ref08_SameSources_4_eq N _ _ _ _ _) ?_
    simp only [toNat_cast, beq_self_eq_true, bne_self_eq_false, Bool.and_self, Bool.and_true, Bool.not_true, hk, cond_true, cond_false]
    refine Ev.cond_t (decide_eq_true (by omega)) (Ev.cond_t (decide_eq_true (by omega)) (Ev.cond_t (decide_eq_true (by omega)) (Ev.cond_t (decide_eq_true (by omega)) (Ev.cond_t (decide_eq_true (by omega)) ?_))))
    rw [W_succ (by omega)]
    exact ih
theorem ref08_SameSources_same (n : Nat) (c : List V) (h : RowsOk [CK.i IntKind.i64] 1 n c) : Ev (fun N => call cc N n_ref08_SameSources [.sl n c, .sl n c]) (.bool true) := by
  refine Ev.succ (fun N => F_ref08_SameSources N _ _ _ _) (Ev.cond_f (by simp) ?_)
  exact S_ref08_SameSources_4_same n c h _ (Ev.some _) n 0 (by omega)

theorem S_ref27_SameSends_4_same (n0 : Nat) (c1 : List V) (h : RowsOk [CK.i IntKind.i64, CK.i IntKind.u8, CK.i IntKind.i64, CK.i IntKind.i64, CK.i IntKind.i64, CK.i IntKind.i64, CK.i IntKind.i64, CK.i IntKind.i64, CK.i IntKind.i64, CK.i IntKind.i64, CK.i IntKind.i64] 11 n0 c1) (r : V) (hex : Ev (fun N => some (V.bool true)) r) : ∀ k i : Nat, i + k = n0 → Ev (fun N => S_ref27_SameSends_4 N n0 c1 n0 c1 (i : Int)) r
  | 0, i, hi => Ev.succ (fun N => S_ref27_SameSends_4_eq N _ _ _ _ _) (Ev.cond_f (decide_eq_false (by omega)) hex)
  | k + 1, i, hi => by
    have hk := h.2 i (by omega)
    have hb := h.1
    have ih := S_ref27_SameSends_4_same n0 c1 h r hex k (i + 1) (by omega)
    refine Ev.succ (fun N => S_ref27_SameSends_4_eq N _ _ _ _ _) ?_
    simp only [toNat_cast, beq_self_eq_true, bne_self_eq_false, Bool.and_self, Bool.and_true, Bool.not_true, hk, cond_true, cond_false]
    refine Ev.cond_t (decide_eq_true (by omega)) (Ev.cond_t (decide_eq_true (by omega)) (Ev.cond_t (decide_eq_true (by omega)) (Ev.cond_t (decide_eq_true (by omega)) (Ev.cond_t (decide_eq_true (by omega)) ?_))))
    rw [W_succ (by omega)]
    exact ih
theorem ref27_SameSends_same (n : Nat) (c : List V) (h : RowsOk [CK.i IntKind.i64, CK.i IntKind.u8, CK.i IntKind.i64, CK.i IntKind.i64, CK.i IntKind.i64, CK.i IntKind.i64, CK.i IntKind.i64, CK.i IntKind.i64, CK.i IntKind.i64, CK.i IntKind.i64, CK.i IntKind.i64] 11 n c) : Ev (fun N => call cc N n_ref27_SameSends [.sl n c, .sl n c]) (.bool true) := by
  refine Ev.succ (fun N => F_ref27_SameSends N _ _ _ _) (Ev.cond_f (by simp) ?_)
  exact S_ref27_SameSends_4_same n c h _ (Ev.some _) n 0 (by omega)

theorem S_ref26_SameList_4_same (n0 : Nat) (c1 : List V) (h : RowsOk [CK.i IntKind.u8, CK.i IntKind.i64, CK.i IntKind.i64, CK.i IntKind.i64, CK.i IntKind.i64, CK.i IntKind.i64, CK.i IntKind.i64, CK.i IntKind.i64, CK.i IntKind.i64, CK.i IntKind.i64] 10 n0 c1) (r : V) (hex : Ev (fun N => some (V.bool true)) r) : ∀ k i : Nat, i + k = n0 → Ev (fun N => S_ref26_SameList_4 N n0 c1 n0 c1 (i : Int)) r
  | 0, i, hi => Ev.succ (fun N => S_ref26_SameList_4_eq N _ _ _ _ _) (Ev.cond_f (decide_eq_false (by omega)) hex)
  | k + 1, i, hi => by
    have hk := h.2 i (by omega)
    have hb := h.1
    have ih := S_ref26_SameList_4_same n0 c1 h r hex k (i + 1) (by omega)
    refine Ev.succ (fun N => S_ref26_SameList_4_eq N _ _ _ _ _) ?_
    simp only [toNat_cast, beq_self_eq_true, bne_self_eq_false, Bool.and_self, Bool.and_true, Bool.not_true, hk, cond_true, cond_false]
    refine Ev.cond_t (decide_eq_true (by omega)) (Ev.cond_t (decide_eq_true (by omega)) (Ev.cond_t (decide_eq_true (by omega)) (Ev.cond_t (decide_eq_true (by omega)) (Ev.cond_t (decide_eq_true (by omega)) ?_))))
    rw [W_succ (by omega)]
    exact ih
theorem ref26_SameList_same (n : Nat) (c : List V) (h : RowsOk [CK.i IntKind.u8, CK.i IntKind.i64, CK.i IntKind.i64, CK.i IntKind.i64, CK.i IntKind.i64, CK.i IntKind.i64, CK.i IntKind.i64, CK.i IntKind.i64, CK.i IntKind.i64, CK.i IntKind.i64] 10 n c) : Ev (fun N => call cc N n_ref26_SameList [.sl n c, .sl n c]) (.bool true) := by
  refine Ev.succ (fun N => F_ref26_SameList N _ _ _ _) (Ev.cond_f (by simp) ?_)
  exact S_ref26_SameList_4_same n c h _ (Ev.some _) n 0 (by omega)

theorem S_ref24_Same_9_same (n1 : Nat) (c2 : List V) (n3 : Nat) (c4 : List V) (h : RowsOk [CK.i IntKind.i64, CK.i IntKind.i64, CK.i IntKind.i64, CK.i IntKind.i64, CK.i IntKind.i64] 5 n3 c4) (r : V) (hex : Ev (fun N => some (V.bool true)) r) : ∀ k i : Nat, i + k = n3 → Ev (fun N => S_ref24_Same_9 N (i : Int) n1 c2 n3 c4 n1 c2 n3 c4) r
  | 0, i, hi => Ev.succ (fun N => S_ref24_Same_9_eq N _ _ _ _ _ _ _ _ _) (Ev.cond_f (decide_eq_false (by omega)) hex)
  | k + 1, i, hi => by
    have hk := h.2 i (by omega)
    have hb := h.1
    have ih := S_ref24_Same_9_same n1 c2 n3 c4 h r hex k (i + 1) (by omega)
    refine Ev.succ (fun N => S_ref24_Same_9_eq N _ _ _ _ _ _ _ _ _) ?_
    simp only [toNat_cast, beq_self_eq_true, bne_self_eq_false, Bool.and_self, Bool.and_true, Bool.not_true, hk, cond_true, cond_false]
    refine Ev.cond_t (decide_eq_true (by omega)) (Ev.cond_t (decide_eq_true (by omega)) (Ev.cond_t (decide_eq_true (by omega)) (Ev.cond_t (decide_eq_true (by omega)) (Ev.cond_t (decide_eq_true (by omega)) ?_))))
    rw [W_succ (by omega)]
    exact ih
theorem S_ref24_Same_4_same (n1 : Nat) (c2 : List V) (n3 : Nat) (c4 : List V) (h : RowsOk [CK.i IntKind.u8, CK.i IntKind.i64] 2 n1 c2) (r : V) (hex : Ev (fun N => S_ref24_Same_9 N (0 : Int) n1 c2 n3 c4 n1 c2 n3 c4) r) : ∀ k i : Nat, i + k = n1 → Ev (fun N => S_ref24_Same_4 N (i : Int) n1 c2 n3 c4 n1 c2 n3 c4) r
  | 0, i, hi => Ev.succ (fun N => S_ref24_Same_4_eq N _ _ _ _ _ _ _ _ _) (Ev.cond_f (decide_eq_false (by omega)) hex)
  | k + 1, i, hi => by
    have hk := h.2 i (by omega)
    have hb := h.1
    have ih := S_ref24_Same_4_same n1 c2 n3 c4 h r hex k (i + 1) (by omega)
    refine Ev.succ (fun N => S_ref24_Same_4_eq N _ _ _ _ _ _ _ _ _) ?_
    simp only [toNat_cast, beq_self_eq_true, bne_self_eq_false, Bool.and_self, Bool.and_true, Bool.not_true, hk, cond_true, cond_false]
    refine Ev.cond_t (decide_eq_true (by omega)) (Ev.cond_t (decide_eq_true (by omega)) (Ev.cond_t (decide_eq_true (by omega)) (Ev.cond_t (decide_eq_true (by omega)) (Ev.cond_t (decide_eq_true (by omega)) ?_))))
    rw [W_succ (by omega)]
    exact ih
theorem S_ref27_Same_24_same (x1 : Int) (x2 : Int) (x3 : Int) (n4 : Nat) (c5 : List V) (n6 : Nat) (c7 : List V) (n8 : Nat) (c9 : List V) (n10 : Nat) (c11 : List V) (n12 : Nat) (c13 : List V) (n14 : Nat) (c15 : List V) (h : RowsOk [CK.i IntKind.i64, CK.i IntKind.i64, CK.i IntKind.i64] 3 n14 c15) (r : V) (hex : Ev (fun N => some (V.bool true)) r) : ∀ k i : Nat, i + k = n14 → Ev (fun N => S_ref27_Same_24 N (i : Int) x1 x2 x3 n4 c5 n6 c7 n8 c9 n10 c11 n12 c13 n14 c15 x1 x2 x3 n4 c5 n6 c7 n8 c9 n10 c11 n12 c13 n14 c15) r
  | 0, i, hi => Ev.succ (fun N => S_ref27_Same_24_eq N _ _ _ _ _ _ _ _ _ _ _ _ _ _ _ _ _ _ _ _ _ _ _ _ _ _ _ _ _ _ _) (Ev.cond_f (decide_eq_false (by omega)) hex)
  | k + 1, i, hi => by
    have hk := h.2 i (by omega)
    have hb := h.1
    have ih := S_ref27_Same_24_same x1 x2 x3 n4 c5 n6 c7 n8 c9 n10 c11 n12 c13 n14 c15 h r hex k (i + 1) (by omega)
    refine Ev.succ (fun N => S_ref27_Same_24_eq N _ _ _ _ _ _ _ _ _ _ _ _ _ _ _ _ _ _ _ _ _ _ _ _ _ _ _ _ _ _ _) ?_
    simp only [toNat_cast, beq_self_eq_true, bne_self_eq_false, Bool.and_self, Bool.and_true, Bool.not_true, hk, cond_true, cond_false]
    refine Ev.cond_t (decide_eq_true (by omega)) (Ev.cond_t (decide_eq_true (by omega)) (Ev.cond_t (decide_eq_true (by omega)) (Ev.cond_t (decide_eq_true (by omega)) (Ev.cond_t (decide_eq_true (by omega)) ?_))))
    rw [W_succ (by omega)]
    exact ih
theorem S_ref27_Same_19_same (x1 : Int) (x2 : Int) (x3 : Int) (n4 : Nat) (c5 : List V) (n6 : Nat) (c7 : List V) (n8 : Nat) (c9 : List V) (n10 : Nat) (c11 : List V) (n12 : Nat) (c13 : List V) (n14 : Nat) (c15 : List V) (h : RowsOk [CK.i IntKind.i64, CK.i IntKind.i64, CK.i IntKind.i64, CK.i IntKind.i64, CK.i IntKind.i64] 5 n12 c13) (r : V) (hex : Ev (fun N => S_ref27_Same_24 N (0 : Int) x1 x2 x3 n4 c5 n6 c7 n8 c9 n10 c11 n12 c13 n14 c15 x1 x2 x3 n4 c5 n6 c7 n8 c9 n10 c11 n12 c13 n14 c15) r) : ∀ k i : Nat, i + k = n12 → Ev (fun N => S_ref27_Same_19 N (i : Int) x1 x2 x3 n4 c5 n6 c7 n8 c9 n10 c11 n12 c13 n14 c15 x1 x2 x3 n4 c5 n6 c7 n8 c9 n10 c11 n12 c13 n14 c15) r
  | 0, i, hi => Ev.succ (fun N => S_ref27_Same_19_eq N _ _ _ _ _ _ _ _ _ _ _ _ _ _ _ _ _ _ _ _ _ _ _ _ _ _ _ _ _ _ _) (Ev.cond_f (decide_eq_false (by omega)) hex)
  | k + 1, i, hi => by
    have hk := h.2 i (by omega)
    have hb := h.1
    have ih := S_ref27_Same_19_same x1 x2 x3 n4 c5 n6 c7 n8 c9 n10 c11 n12 c13 n14 c15 h r hex k (i + 1) (by omega)
    refine Ev.succ (fun N => S_ref27_Same_19_eq N _ _ _ _ _ _ _ _ _ _ _ _ _ _ _ _ _ _ _ _ _ _ _ _ _ _ _ _ _ _ _) ?_
    simp only [toNat_cast, beq_self_eq_true, bne_self_eq_false, Bool.and_self, Bool.and_true, Bool.not_true, hk, cond_true, cond_false]
    refine Ev.cond_t (decide_eq_true (by omega)) (Ev.cond_t (decide_eq_true (by omega)) (Ev.cond_t (decide_eq_true (by omega)) (Ev.cond_t (decide_eq_true (by omega)) (Ev.cond_t (decide_eq_true (by omega)) ?_))))
    rw [W_succ (by omega)]
    exact ih
theorem S_ref27_Same_14_same (x1 : Int) (x2 : Int) (x3 : Int) (n4 : Nat) (c5 : List V) (n6 : Nat) (c7 : List V) (n8 : Nat) (c9 : List V) (n10 : Nat) (c11 : List V) (n12 : Nat) (c13 : List V) (n14 : Nat) (c15 : List V) (h : RowsOk [CK.b, CK.i IntKind.i64, CK.i IntKind.i64, CK.i IntKind.i64, CK.i IntKind.i64] 5 n10 c11) (r : V) (hex : Ev (fun N => S_ref27_Same_19 N (0 : Int) x1 x2 x3 n4 c5 n6 c7 n8 c9 n10 c11 n12 c13 n14 c15 x1 x2 x3 n4 c5 n6 c7 n8 c9 n10 c11 n12 c13 n14 c15) r) : ∀ k i : Nat, i + k = n10 → Ev (fun N => S_ref27_Same_14 N (i : Int) x1 x2 x3 n4 c5 n6 c7 n8 c9 n10 c11 n12 c13 n14 c15 x1 x2 x3 n4 c5 n6 c7 n8 c9 n10 c11 n12 c13 n14 c15) r
  | 0, i, hi => Ev.succ (fun N => S_ref27_Same_14_eq N _ _ _ _ _ _ _ _ _ _ _ _ _ _ _ _ _ _ _ _ _ _ _ _ _ _ _ _ _ _ _) (Ev.cond_f (decide_eq_false (by omega)) hex)
  | k + 1, i, hi => by
    have hk := h.2 i (by omega)
    have hb := h.1
    have ih := S_ref27_Same_14_same x1 x2 x3 n4 c5 n6 c7 n8 c9 n10 c11 n12 c13 n14 c15 h r hex k (i + 1) (by omega)
    refine Ev.succ (fun N => S_ref27_Same_14_eq N _ _ _ _ _ _ _ _ _ _ _ _ _ _ _ _ _ _ _ _ _ _ _ _ _ _ _ _ _ _ _) ?_
    simp only [toNat_cast, beq_self_eq_true, bne_self_eq_false, Bool.and_self, Bool.and_true, Bool.not_true, hk, cond_true, cond_false]
    refine Ev.cond_t (decide_eq_true (by omega)) (Ev.cond_t (decide_eq_true (by omega)) (Ev.cond_t (decide_eq_true (by omega)) (Ev.cond_t (decide_eq_true (by omega)) (Ev.cond_t (decide_eq_true (by omega)) ?_))))
    rw [W_succ (by omega)]
    exact ih
theorem S_ref27_Same_9_same (x1 : Int) (x2 : Int) (x3 : Int) (n4 : Nat) (c5 : List V) (n6 : Nat) (c7 : List V) (n8 : Nat) (c9 : List V) (n10 : Nat) (c11 : List V) (n12 : Nat) (c13 : List V) (n14 : Nat) (c15 : List V) (h : RowsOk [CK.i IntKind.i64, CK.i IntKind.i64, CK.i IntKind.i64, CK.i IntKind.i64, CK.i IntKind.i64, CK.i IntKind.i64, CK.i IntKind.i64, CK.i IntKind.i64, CK.i IntKind.i64, CK.i IntKind.i64, CK.i IntKind.i64] 11 n8 c9) (r : V) (hex : Ev (fun N => S_ref27_Same_14 N (0 : Int) x1 x2 x3 n4 c5 n6 c7 n8 c9 n10 c11 n12 c13 n14 c15 x1 x2 x3 n4 c5 n6 c7 n8 c9 n10 c11 n12 c13 n14 c15) r) : ∀ k i : Nat, i + k = n8 → Ev (fun N => S_ref27_Same_9 N (i : Int) x1 x2 x3 n4 c5 n6 c7 n8 c9 n10 c11 n12 c13 n14 c15 x1 x2 x3 n4 c5 n6 c7 n8 c9 n10 c11 n12 c13 n14 c15) r
  | 0, i, hi => Ev.succ (fun N => S_ref27_Same_9_eq N _ _ _ _ _ _ _ _ _ _ _ _ _ _ _ _ _ _ _ _ _ _ _ _ _ _ _ _ _ _ _) (Ev.cond_f (decide_eq_false (by omega)) hex)
  | k + 1, i, hi => by
    have hk := h.2 i (by omega)
    have hb := h.1
    have ih := S_ref27_Same_9_same x1 x2 x3 n4 c5 n6 c7 n8 c9 n10 c11 n12 c13 n14 c15 h r hex k (i + 1) (by omega)
    refine Ev.succ (fun N => S_ref27_Same_9_eq N _ _ _ _ _ _ _ _ _ _ _ _ _ _ _ _ _ _ _ _ _ _ _ _ _ _ _ _ _ _ _) ?_
    simp only [toNat_cast, beq_self_eq_true, bne_self_eq_false, Bool.and_self, Bool.and_true, Bool.not_true, hk, cond_true, cond_false]
    refine Ev.cond_t (decide_eq_true (by omega)) (Ev.cond_t (decide_eq_true (by omega)) (Ev.cond_t (decide_eq_true (by omega)) (Ev.cond_t (decide_eq_true (by omega)) (Ev.cond_t (decide_eq_true (by omega)) ?_))))
    rw [W_succ (by omega)]
    exact ih
theorem S_ref27_Same_4_same (x1 : Int) (x2 : Int) (x3 : Int) (n4 : Nat) (c5 : List V) (n6 : Nat) (c7 : List V) (n8 : Nat) (c9 : List V) (n10 : Nat) (c11 : List V) (n12 : Nat) (c13 : List V) (n14 : Nat) (c15 : List V) (h : RowsOk [CK.i IntKind.i64] 1 n6 c7) (r : V) (hex : Ev (fun N => S_ref27_Same_9 N (0 : Int) x1 x2 x3 n4 c5 n6 c7 n8 c9 n10 c11 n12 c13 n14 c15 x1 x2 x3 n4 c5 n6 c7 n8 c9 n10 c11 n12 c13 n14 c15) r) : ∀ k i : Nat, i + k = n6 → Ev (fun N => S_ref27_Same_4 N (i : Int) x1 x2 x3 n4 c5 n6 c7 n8 c9 n10 c11 n12 c13 n14 c15 x1 x2 x3 n4 c5 n6 c7 n8 c9 n10 c11 n12 c13 n14 c15) r
  | 0, i, hi => Ev.succ (fun N => S_ref27_Same_4_eq N _ _ _ _ _ _ _ _ _ _ _ _ _ _ _ _ _ _ _ _ _ _ _ _ _ _ _ _ _ _ _) (Ev.cond_f (decide_eq_false (by omega)) hex)
  | k + 1, i, hi => by
    have hk := h.2 i (by omega)
    have hb := h.1
    have ih := S_ref27_Same_4_same x1 x2 x3 n4 c5 n6 c7 n8 c9 n10 c11 n12 c13 n14 c15 h r hex k (i + 1) (by omega)
    refine Ev.succ (fun N => S_ref27_Same_4_eq N _ _ _ _ _ _ _ _ _ _ _ _ _ _ _ _ _ _ _ _ _ _ _ _ _ _ _ _ _ _ _) ?_
    simp only [toNat_cast, beq_self_eq_true, bne_self_eq_false, Bool.and_self, Bool.and_true, Bool.not_true, hk, cond_true, cond_false]
    refine Ev.cond_t (decide_eq_true (by omega)) (Ev.cond_t (decide_eq_true (by omega)) (Ev.cond_t (decide_eq_true (by omega)) (Ev.cond_t (decide_eq_true (by omega)) (Ev.cond_t (decide_eq_true (by omega)) ?_))))
    rw [W_succ (by omega)]
    exact ih
end Go.Pv

/- Comparisons of what is the same: tasks, queues, machines. -/
namespace Go.Pv

abbrev kSend : List CK := [CK.i IntKind.i64, CK.i IntKind.u8, CK.i IntKind.i64, CK.i IntKind.i64, CK.i IntKind.i64, CK.i IntKind.i64, CK.i IntKind.i64, CK.i IntKind.i64, CK.i IntKind.i64, CK.i IntKind.i64, CK.i IntKind.i64]
abbrev kMsg : List CK := [CK.i IntKind.u8, CK.i IntKind.i64, CK.i IntKind.i64, CK.i IntKind.i64, CK.i IntKind.i64, CK.i IntKind.i64, CK.i IntKind.i64, CK.i IntKind.i64, CK.i IntKind.i64, CK.i IntKind.i64]
abbrev kEntry : List CK := [CK.i IntKind.i64, CK.i IntKind.i64, CK.i IntKind.i64, CK.i IntKind.i64, CK.i IntKind.i64, CK.i IntKind.i64, CK.i IntKind.i64, CK.i IntKind.i64, CK.i IntKind.i64, CK.i IntKind.i64, CK.i IntKind.i64]
abbrev kEvent : List CK := [CK.b, CK.i IntKind.i64, CK.i IntKind.i64, CK.i IntKind.i64, CK.i IntKind.i64]
abbrev kRow : List CK := [CK.i IntKind.i64, CK.i IntKind.i64, CK.i IntKind.i64, CK.i IntKind.i64, CK.i IntKind.i64]
abbrev kRec : List CK := [CK.i IntKind.i64, CK.i IntKind.i64, CK.i IntKind.i64]
structure Tk where
  kind : Int
  n : Int
  turn : Int
  pend : Nat × List V
  marks : Nat × List V
  store : Nat × List V
  events : Nat × List V
  rows : Nat × List V
  late : Nat × List V
  deriving Inhabited
def slv (p : Nat × List V) : V := .sl p.1 p.2
def encTk (t : Tk) : List V := [.int .u8 t.kind, .int .i64 t.n, .int .i64 t.turn, slv t.pend, slv t.marks, slv t.store, slv t.events, slv t.rows, slv t.late]
structure TkOk (t : Tk) : Prop where
  pend : RowsOk kSend 11 t.pend.1 t.pend.2
  marks : RowsOk [CK.i IntKind.i64] 1 t.marks.1 t.marks.2
  store : RowsOk kEntry 11 t.store.1 t.store.2
  events : RowsOk kEvent 5 t.events.1 t.events.2
  rows : RowsOk kRow 5 t.rows.1 t.rows.2
  late : RowsOk kRec 3 t.late.1 t.late.2

theorem ref27_Same_same {t : Tk} (h : TkOk t) : Ev (fun N => call cc N n_ref27_Same [.agg (encTk t), .agg (encTk t)]) (.bool true) := by
  unfold encTk slv
  refine Ev.succ (fun N => F_ref27_Same N _ _ _ _ _ _ _ _ _ _ _ _ _ _ _ _ _ _ _ _ _ _ _ _ _ _ _ _ _ _) (Ev.cond_f (by simp) (Ev.cond_f (by simp) (Ev.bind (ref27_SameSends_same _ _ h.pend) (Ev.cond_t rfl (Ev.cond_t rfl (Ev.cond_f (by simp) (Ev.cond_f (by simp) (Ev.cond_f (by simp) (Ev.cond_f (by simp) (Ev.cond_f (by simp) ?_))))))))))
  have l24 := S_ref27_Same_24_same t.kind t.n t.turn t.pend.1 t.pend.2 t.marks.1 t.marks.2 t.store.1 t.store.2 t.events.1 t.events.2 t.rows.1 t.rows.2 t.late.1 t.late.2 h.late _ (Ev.some _) t.late.1 0 (by omega)
  have l19 := S_ref27_Same_19_same t.kind t.n t.turn t.pend.1 t.pend.2 t.marks.1 t.marks.2 t.store.1 t.store.2 t.events.1 t.events.2 t.rows.1 t.rows.2 t.late.1 t.late.2 h.rows _ l24 t.rows.1 0 (by omega)
  have l14 := S_ref27_Same_14_same t.kind t.n t.turn t.pend.1 t.pend.2 t.marks.1 t.marks.2 t.store.1 t.store.2 t.events.1 t.events.2 t.rows.1 t.rows.2 t.late.1 t.late.2 h.events _ l19 t.events.1 0 (by omega)
  have l9 := S_ref27_Same_9_same t.kind t.n t.turn t.pend.1 t.pend.2 t.marks.1 t.marks.2 t.store.1 t.store.2 t.events.1 t.events.2 t.rows.1 t.rows.2 t.late.1 t.late.2 h.store _ l14 t.store.1 0 (by omega)
  exact S_ref27_Same_4_same t.kind t.n t.turn t.pend.1 t.pend.2 t.marks.1 t.marks.2 t.store.1 t.store.2 t.events.1 t.events.2 t.rows.1 t.rows.2 t.late.1 t.late.2 h.marks _ l9 t.marks.1 0 (by omega)

/-! Lists of tasks. -/
def encTks (l : List Tk) : List V := l.flatMap encTk
def tk (l : List Tk) (i : Nat) : Tk := l[i]?.getD default
theorem tk_k {l : List Tk} {i : Nat} (h : i < l.length) (k : Nat) (hk : k < 9) : cellAt (encTks l) (i * 9 + k) = cellAt (encTk (tk l i)) k := cellAt_flat encTk 9 (fun _ => rfl) l i k h hk
theorem tk_0 {l : List Tk} {i : Nat} (h : i < l.length) : cellAt (encTks l) (i * 9) = .int .u8 (tk l i).kind := tk_k h 0 (by omega)
theorem tk_1 {l : List Tk} {i : Nat} (h : i < l.length) : cellAt (encTks l) (i * 9 + 1) = .int .i64 (tk l i).n := tk_k h 1 (by omega)
theorem tk_2 {l : List Tk} {i : Nat} (h : i < l.length) : cellAt (encTks l) (i * 9 + 1 + 1) = .int .i64 (tk l i).turn := tk_k h 2 (by omega)
theorem tk_3 {l : List Tk} {i : Nat} (h : i < l.length) : cellAt (encTks l) (i * 9 + 1 + 1 + 1) = slv (tk l i).pend := tk_k h 3 (by omega)
theorem tk_4 {l : List Tk} {i : Nat} (h : i < l.length) : cellAt (encTks l) (i * 9 + 1 + 1 + 1 + 1) = slv (tk l i).marks := tk_k h 4 (by omega)
theorem tk_5 {l : List Tk} {i : Nat} (h : i < l.length) : cellAt (encTks l) (i * 9 + 1 + 1 + 1 + 1 + 1) = slv (tk l i).store := tk_k h 5 (by omega)
theorem tk_6 {l : List Tk} {i : Nat} (h : i < l.length) : cellAt (encTks l) (i * 9 + 1 + 1 + 1 + 1 + 1 + 1) = slv (tk l i).events := tk_k h 6 (by omega)
theorem tk_7 {l : List Tk} {i : Nat} (h : i < l.length) : cellAt (encTks l) (i * 9 + 1 + 1 + 1 + 1 + 1 + 1 + 1) = slv (tk l i).rows := tk_k h 7 (by omega)
theorem tk_8 {l : List Tk} {i : Nat} (h : i < l.length) : cellAt (encTks l) (i * 9 + 1 + 1 + 1 + 1 + 1 + 1 + 1 + 1) = slv (tk l i).late := tk_k h 8 (by omega)
theorem tk_okT {l : List Tk} {i : Nat} (h : i < l.length) : okT [CK.i IntKind.u8, CK.i IntKind.i64, CK.i IntKind.i64, CK.sl 11, CK.sl 1, CK.sl 11, CK.sl 5, CK.sl 5, CK.sl 3] (encTks l) (i * 9) = true := by
  simp only [okT_cons, tk_0 h, tk_1 h, tk_2 h, tk_3 h, tk_4 h, tk_5 h, tk_6 h, tk_7 h, tk_8 h]
  rfl
@[simp] theorem slv_N (p : Nat × List V) : V.slN (slv p) = p.1 := rfl
@[simp] theorem slv_C (p : Nat × List V) : V.slC (slv p) = p.2 := rfl
theorem encTks_snoc (l : List Tk) (t : Tk) : encTks l ++ encTk t = encTks (l ++ [t]) := by simp [encTks]

/-- A machine: the query, the graph's lists, the tasks, the queues. -/
def encM (q : Query) (o c : Nat × List V) (ts : List Tk) (qs : Nat × List V) : List V := encQ q ++ [slv o, slv c, .sl ts.length (encTks ts), slv qs]

theorem ref35_loop {q : Query} {o c qs : Nat × List V} {ts : List Tk} (hl : ts.length ≤ 1000) (h : ∀ t ∈ ts, TkOk t) : ∀ k i : Nat, i + k = ts.length →
    Ev (fun N => S_ref35_Same_4 N (i : Int) q.agg q.arg.length (encNodes q.arg) q.sources.length (ints q.sources) q.join q.where_.length (encNodes q.where_) q.win.kind q.win.size q.win.every q.byKey q.late o.1 o.2 c.1 c.2 ts.length (encTks ts) qs.1 qs.2 q.agg q.arg.length (encNodes q.arg) q.sources.length (ints q.sources) q.join q.where_.length (encNodes q.where_) q.win.kind q.win.size q.win.every q.byKey q.late o.1 o.2 c.1 c.2 ts.length (encTks ts) qs.1 qs.2) (.bool true)
  | 0, i, hi => Ev.succ (fun N => S_ref35_Same_4_eq N _ _ _ _ _ _ _ _ _ _ _ _ _ _ _ _ _ _ _ _ _ _ _ _ _ _ _ _ _ _ _ _ _ _ _ _ _ _ _ _ _ _ _) (Ev.cond_f (decide_eq_false (by omega)) (Ev.some _))
  | k + 1, i, hi => by
    have hi' : i < ts.length := by omega
    have hm : tk ts i ∈ ts := by unfold tk; rw [List.getElem?_eq_getElem hi']; exact List.getElem_mem hi'
    have hs := ref27_Same_same (h _ hm)
    have ih := ref35_loop (q := q) (o := o) (c := c) (qs := qs) hl h k (i + 1) (by omega)
    refine Ev.succ (fun N => S_ref35_Same_4_eq N _ _ _ _ _ _ _ _ _ _ _ _ _ _ _ _ _ _ _ _ _ _ _ _ _ _ _ _ _ _ _ _ _ _ _ _ _ _ _ _ _ _ _) ?_
    simp only [toNat_cast, tk_0 hi', tk_1 hi', tk_2 hi', tk_3 hi', tk_4 hi', tk_5 hi', tk_6 hi', tk_7 hi', tk_8 hi', tk_okT hi', toI_int, slv_N, slv_C]
    refine Ev.cond_t (decide_eq_true (by omega)) (Ev.cond_t (decide_eq_true (by omega)) (Ev.cond_t (decide_eq_true (by omega)) (Ev.cond_t rfl (Ev.cond_t (decide_eq_true (by omega)) (Ev.cond_t (decide_eq_true (by omega)) (Ev.cond_t rfl ?_))))))
    refine Ev.bind hs (Ev.cond_t rfl (Ev.cond_t rfl ?_))
    rw [W_succ (by omega)]
    exact ih

/-! Queues that are empty. -/
def encQs (room : Int) (m : Nat) : List V := (List.replicate m [V.int .i64 room, V.sl 0 []]).flatten
theorem encQs_snoc (room : Int) (m : Nat) : encQs room m ++ [V.int .i64 room, V.sl 0 []] = encQs room (m + 1) := by
  unfold encQs; rw [List.replicate_succ', List.flatten_append]; simp
theorem qs_at (room : Int) : ∀ (m i : Nat), i < m → cellAt (encQs room m) (i * 2) = .int .i64 room ∧ cellAt (encQs room m) (i * 2 + 1) = .sl 0 []
  | 0, i, h => absurd h (Nat.not_lt_zero i)
  | m + 1, 0, h => by constructor <;> rfl
  | m + 1, i + 1, h => by
    have ih := qs_at room m i (by omega)
    have e : encQs room (m + 1) = .int .i64 room :: .sl 0 [] :: encQs room m := rfl
    rw [e]
    have e1 : (i + 1) * 2 = i * 2 + 1 + 1 := by omega
    rw [e1]
    exact ih
theorem qs_okT {room : Int} {m i : Nat} (h : i < m) : okT [CK.i IntKind.i64, CK.sl 10] (encQs room m) (i * 2) = true := by
  simp only [okT_cons, (qs_at room m i h).1, (qs_at room m i h).2]; rfl
theorem ref26_Same_same (room : Int) : Ev (fun N => call cc N n_ref26_Same [.agg [.int .i64 room, .sl 0 []], .agg [.int .i64 room, .sl 0 []]]) (.bool true) :=
  Ev.succ (fun N => F_ref26_Same N _ _ _ _ _ _) (Ev.cond_t (by simp) (Ev.bind (ref26_SameList_same 0 [] (RowsOk.nil _ _ _)) (Ev.cond_t rfl (Ev.cond_t rfl (Ev.some _)))))
theorem ref26_SameAll_loop (room : Int) {m : Nat} (hm : m ≤ 1000) : ∀ k i : Nat, i + k = m → Ev (fun N => S_ref26_SameAll_4 N m (encQs room m) m (encQs room m) (i : Int)) (.bool true)
  | 0, i, hi => Ev.succ (fun N => S_ref26_SameAll_4_eq N _ _ _ _ _) (Ev.cond_f (decide_eq_false (by omega)) (Ev.some _))
  | k + 1, i, hi => by
    have hi' : i < m := by omega
    have ih := ref26_SameAll_loop room hm k (i + 1) (by omega)
    refine Ev.succ (fun N => S_ref26_SameAll_4_eq N _ _ _ _ _) ?_
    simp only [toNat_cast, (qs_at room m i hi').1, (qs_at room m i hi').2, qs_okT hi', toI_int, slN_sl, slC_sl]
    refine Ev.cond_t (decide_eq_true (by omega)) (Ev.cond_t (decide_eq_true (by omega)) (Ev.cond_t (decide_eq_true (by omega)) (Ev.cond_t rfl (Ev.cond_t (decide_eq_true (by omega)) (Ev.cond_t (decide_eq_true (by omega)) (Ev.cond_t rfl ?_))))))
    refine Ev.bind (ref26_Same_same room) (Ev.cond_t rfl (Ev.cond_t rfl ?_))
    rw [W_succ (by omega)]
    exact ih
theorem ref26_SameAll_same (room : Int) {m : Nat} (hm : m ≤ 1000) : Ev (fun N => call cc N n_ref26_SameAll [.sl m (encQs room m), .sl m (encQs room m)]) (.bool true) :=
  Ev.succ (fun N => F_ref26_SameAll N _ _ _ _) (Ev.cond_f (by simp) (ref26_SameAll_loop room hm m 0 (by omega)))

theorem ref24_Same_same {o c : Nat × List V} (ho : RowsOk [CK.i IntKind.u8, CK.i IntKind.i64] 2 o.1 o.2) (hc : RowsOk kRow 5 c.1 c.2) : Ev (fun N => call cc N n_ref24_Same [.agg [slv o, slv c], .agg [slv o, slv c]]) (.bool true) := by
  unfold slv
  have l9 := S_ref24_Same_9_same o.1 o.2 c.1 c.2 hc _ (Ev.some _) c.1 0 (by omega)
  exact Ev.succ (fun N => F_ref24_Same N _ _ _ _ _ _ _ _) (Ev.cond_f (by simp) (Ev.cond_f (by simp) (S_ref24_Same_4_same o.1 o.2 c.1 c.2 ho _ l9 o.1 0 (by omega))))

theorem rows_nodes {l : List Node} (h : l.length ≤ 1000) : RowsOk [CK.i IntKind.u8, CK.i IntKind.i64, CK.i IntKind.i64, CK.i IntKind.i64, CK.i IntKind.i64] 5 l.length (encNodes l) := ⟨h, fun i hi => node_okT hi⟩
theorem rows_ints {l : List Int} (h : l.length ≤ 1000) : RowsOk [CK.i IntKind.i64] 1 l.length (ints l) := ⟨h, fun i hi => by rw [Nat.mul_one]; exact ints_okT hi⟩
theorem ref08_Alike_same {q : Query} (hg : greatQ q = false) : Ev (fun N => call cc N n_ref08_Alike [.agg (encQ q), .agg (encQ q)]) (.bool true) := by
  obtain ⟨h1, h2, h3⟩ := not_great hg
  unfold encQ
  refine Ev.succ (fun N => F_ref08_Alike N _ _ _ _ _ _ _ _ _ _ _ _ _ _ _ _ _ _ _ _ _ _ _ _ _ _) (Ev.cond_t (by simp) (Ev.bind (ref04_Alike_same _ _ (rows_nodes (by omega))) (Ev.cond_t rfl (Ev.cond_t rfl (Ev.bind (ref08_SameSources_same _ _ (rows_ints (by omega))) (Ev.cond_t rfl (Ev.cond_t rfl ?_)))))))
  have ha := ref04_Alike_same _ _ (rows_nodes (l := q.where_) (by omega))
  cases q.join with
  | true =>
    refine Ev.cond_t rfl (Ev.cond_t rfl (Ev.bind ha (Ev.cond_t rfl (Ev.cond_t rfl (Ev.cond_t (by simp) ?_)))))
    cases q.byKey with
    | true => exact Ev.cond_t rfl (Ev.cond_t rfl (Ev.cond_t (by simp) (Ev.some _)))
    | false => exact Ev.cond_f rfl (Ev.cond_f rfl (Ev.cond_t (by simp) (Ev.some _)))
  | false =>
    refine Ev.cond_f rfl (Ev.cond_f rfl (Ev.bind ha (Ev.cond_t rfl (Ev.cond_t rfl (Ev.cond_t (by simp) ?_)))))
    cases q.byKey with
    | true => exact Ev.cond_t rfl (Ev.cond_t rfl (Ev.cond_t (by simp) (Ev.some _)))
    | false => exact Ev.cond_f rfl (Ev.cond_f rfl (Ev.cond_t (by simp) (Ev.some _)))

theorem ref36_Same_same {q : Query} {o c : Nat × List V} {ts : List Tk} {room : Int} {m : Nat} (hg : greatQ q = false) (ho : RowsOk [CK.i IntKind.u8, CK.i IntKind.i64] 2 o.1 o.2) (hc : RowsOk kRow 5 c.1 c.2) (hl : ts.length ≤ 1000) (ht : ∀ t ∈ ts, TkOk t) (hm : m ≤ 1000) :
    Ev (fun N => call cc N n_ref36_Same [.agg (encM q o c ts (m, encQs room m)), .agg (encM q o c ts (m, encQs room m))]) (.bool true) := by
  have h1 := ref08_Alike_same hg
  have h2 := ref24_Same_same ho hc
  have h3 := ref26_SameAll_same room hm
  have h4 := ref35_loop (q := q) (o := o) (c := c) (qs := (m, encQs room m)) hl ht ts.length 0 (by omega)
  unfold encM encQ slv
  unfold encQ at h1
  unfold slv at h2
  refine Ev.succ (fun N => F_ref36_Same N _ _ _ _ _ _ _ _ _ _ _ _ _ _ _ _ _ _ _ _ _ _ _ _ _ _ _ _ _ _ _ _ _ _ _ _ _ _ _ _ _ _) (Ev.bind h1 (Ev.cond_t rfl (Ev.cond_t rfl (Ev.bind h2 (Ev.cond_t rfl (Ev.cond_t rfl (Ev.bind (v := .bool true) ?_ (Ev.cond_t rfl (Ev.cond_t rfl (Ev.some _))))))))))
  exact Ev.succ (fun N => F_ref35_Same N _ _ _ _ _ _ _ _ _ _ _ _ _ _ _ _ _ _ _ _ _ _ _ _ _ _ _ _ _ _ _ _ _ _ _ _ _ _ _ _ _ _) (Ev.cond_f (by simp) (Ev.bind h3 (Ev.cond_t rfl (Ev.cond_t rfl h4))))
end Go.Pv

/- Tasks of operators; what is asked of an input. -/
namespace Go.Pv

def encInput (l : List (List Item)) : List V := l.map fun x => .sl x.length (encItems x)
def inp (l : List (List Item)) (i : Nat) : List Item := l[i]?.getD []
theorem input_at {l : List (List Item)} {i : Nat} (h : i < l.length) : cellAt (encInput l) i = .sl (inp l i).length (encItems (inp l i)) := by
  simp [encInput, cellAt, inp, h]
theorem input_okT {l : List (List Item)} {i : Nat} (h : i < l.length) : okT [CK.sl 5] (encInput l) i = true := by
  simp only [okT_cons, input_at h]; rfl

def nil0 : Nat × List V := (0, [])
def taskOf (input : List (List Item)) (n : Nat) (p : OpT) : Tk :=
  { kind := p.1, n := p.2, turn := 0, pend := nil0,
    marks := if p.1 = 2 then (1, [minI]) else if p.1 = 4 then (n, List.replicate n minI) else if p.1 = 5 then (2, [minI, minI]) else nil0,
    store := nil0, events := if p.1 = 1 then ((inp input p.2).length, encItems (inp input p.2)) else nil0, rows := nil0, late := nil0 }
def GOpOk (input : List (List Item)) (p : OpT) : Prop :=
  (p.1 = 1 ∧ p.2 < input.length ∧ p.2 < 4 ∧ itemsErr (inp input p.2) = 0) ∨ (p.1 = 2 ∧ p.2 < 4) ∨ (p.1 = 3 ∧ p.2 < 4) ∨ (p.1 = 4 ∧ p.2 < 3) ∨ (p.1 = 5 ∧ p.2 < 3) ∨ (p.1 = 6 ∧ p.2 = 0) ∨ (p.1 = 7 ∧ p.2 = 0)

section
variable (input : List (List Item)) (n : Nat)
def tRes (p : OpT) : V := .tup [.agg (encTk (taskOf input n p)), .int .i64 0]

theorem filter_Ev {x : Nat} (h : x < 4) : Ev (fun N => call cc N n_filter_New [.int .i64 (x : Int)]) (tRes input n (2, x)) :=
  Ev.succ (fun N => F_filter_New N _) (Ev.cond_f (decide_eq_false (by omega)) (Ev.cond_f (decide_eq_false (by omega)) (Ev.some _)))
theorem ref29_Ev {x : Nat} (h : x < 4) : Ev (fun N => call cc N n_ref29_New [.int .i64 (x : Int)]) (tRes input n (2, x)) :=
  Ev.succ (fun N => F_ref29_New N _) (Ev.cond_f (decide_eq_false (by omega)) (Ev.cond_f (decide_eq_false (by omega)) (Ev.some _)))
theorem part_Ev {x : Nat} (h : x < 4) : Ev (fun N => call cc N n_part_New [.int .i64 (x : Int)]) (tRes input n (3, x)) :=
  Ev.succ (fun N => F_part_New N _) (Ev.cond_f (decide_eq_false (by omega)) (Ev.cond_f (decide_eq_false (by omega)) (Ev.some _)))
theorem ref30_Ev {x : Nat} (h : x < 4) : Ev (fun N => call cc N n_ref30_New [.int .i64 (x : Int)]) (tRes input n (3, x)) :=
  Ev.succ (fun N => F_ref30_New N _) (Ev.cond_f (decide_eq_false (by omega)) (Ev.cond_f (decide_eq_false (by omega)) (Ev.some _)))
theorem aggRes_ok {x : Nat} (h : x < 3) (h1 : 1 ≤ n) (h4 : n ≤ 4) : aggRes x n = tRes input n (4, x) := by
  unfold aggRes
  rw [if_neg (by omega), toNat_cast]
  rfl
theorem agg_Ev {x : Nat} (h : x < 3) (h1 : 1 ≤ n) (h4 : n ≤ 4) : Ev (fun N => call cc N n_agg_New [.int .i64 (x : Int), .int .i64 (n : Int)]) (tRes input n (4, x)) := by
  rw [← aggRes_ok input n h h1 h4]; exact agg_New x n
theorem ref32_Ev {x : Nat} (h : x < 3) (h1 : 1 ≤ n) (h4 : n ≤ 4) : Ev (fun N => call cc N n_ref32_New [.int .i64 (x : Int), .int .i64 (n : Int)]) (tRes input n (4, x)) := by
  rw [← aggRes_ok input n h h1 h4]; exact ref32_New x n
theorem joinRes_ok {x : Nat} (h : x < 3) : joinRes x = tRes input n (5, x) := by
  unfold joinRes
  rw [if_neg (by omega)]
  rfl
theorem join_Ev {x : Nat} (h : x < 3) : Ev (fun N => call cc N n_join_New [.int .i64 (x : Int)]) (tRes input n (5, x)) := by
  rw [← joinRes_ok input n h]; exact join_New x
theorem ref33_Ev {x : Nat} (h : x < 3) : Ev (fun N => call cc N n_ref33_New [.int .i64 (x : Int)]) (tRes input n (5, x)) := by
  rw [← joinRes_ok input n h]; exact ref33_New x
theorem source_Ev {x : Nat} (h : x < 4) (hl : itemsErr (inp input x) = 0) : Ev (fun N => call cc N n_source_New [.int .i64 (x : Int), .sl (inp input x).length (encItems (inp input x))]) (tRes input n (1, x)) :=
  source_New hl (by omega) (by omega)
theorem ref28_Ev {x : Nat} (h : x < 4) (hl : itemsErr (inp input x) = 0) : Ev (fun N => call cc N n_ref28_New [.int .i64 (x : Int), .sl (inp input x).length (encItems (inp input x))]) (tRes input n (1, x)) :=
  ref28_New hl (by omega) (by omega)
theorem sink_Ev (b : Bool) : Ev (fun N => call cc N n_sink_New [.bool b]) (.agg (encTk (taskOf input n (if b then 7 else 6, 0)))) := by
  refine Ev.succ (fun N => F_sink_New N _) ?_
  cases b with
  | true => exact Ev.cond_t rfl (Ev.some _)
  | false => exact Ev.cond_f rfl (Ev.some _)
theorem ref34_Ev (b : Bool) : Ev (fun N => call cc N n_ref34_New [.bool b]) (.agg (encTk (taskOf input n (if b then 7 else 6, 0)))) := by
  refine Ev.succ (fun N => F_ref34_New N _) ?_
  cases b with
  | true => exact Ev.cond_t rfl (Ev.some _)
  | false => exact Ev.cond_f rfl (Ev.some _)
theorem build_1_Ev {x : Nat} (h : x < 4) (hi : x < input.length) (hl : itemsErr (inp input x) = 0) : Ev (fun N => call cc N n_build_Build_1 [.int .i64 (x : Int), .rop [.sl input.length (encInput input)] 0]) (tRes input n (1, x)) := by
  have hs := source_Ev input n h hl
  refine Ev.succ (fun N => F_build_Build_1 N _ _ _) ?_
  simp only [toNat_cast, Nat.mul_one, input_okT hi, input_at hi, slN_sl, slC_sl]
  exact Ev.cond_t (decide_eq_true (by omega)) (Ev.cond_t (decide_eq_true (by omega)) (Ev.cond_t rfl (Ev.bind hs (Ev.cond_t rfl (Ev.some _)))))
theorem build_2_Ev {q : Query} {x : Nat} (h : x < 3) (h1 : 1 ≤ q.sources.length) (h4 : q.sources.length ≤ 4) : Ev (fun N => call cc N n_build_Build_2 [.int .i64 (x : Int), .rop (encQ q) 0]) (tRes input q.sources.length (4, x)) := by
  unfold encQ
  exact Ev.succ (fun N => F_build_Build_2 N _ _ _ _ _ _ _ _ _ _ _ _ _ _) (Ev.bind (agg_Ev input _ h h1 h4) (Ev.cond_t rfl (Ev.some _)))
theorem build_3_Ev (x : Int) : Ev (fun N => call cc N n_build_Build_3 [.int .i64 x]) (tRes input n (6, 0)) :=
  Ev.succ (fun N => F_build_Build_3 N _) (Ev.bind (sink_Ev input n false) (Ev.cond_t rfl (Ev.some _)))
theorem build_4_Ev (x : Int) : Ev (fun N => call cc N n_build_Build_4 [.int .i64 x]) (tRes input n (7, 0)) :=
  Ev.succ (fun N => F_build_Build_4 N _) (Ev.bind (sink_Ev input n true) (Ev.cond_t rfl (Ev.some _)))
end

theorem ref36_fresh {q : Query} {input : List (List Item)} (h1 : 1 ≤ q.sources.length) (h4 : q.sources.length ≤ 4) {p : OpT} (h : GOpOk input p) :
    Ev (fun N => call cc N n_ref36_fresh [.agg (encQ q), .sl input.length (encInput input), .agg [.int .u8 (p.1 : Int), .int .i64 (p.2 : Int)]]) (.agg (encTk (taskOf input q.sources.length p))) := by
  obtain ⟨k, x⟩ := p
  unfold encQ
  refine Ev.succ (fun N => F_ref36_fresh N _ _ _ _ _ _ _ _ _ _ _ _ _ _ _ _ _) ?_
  rcases h with ⟨h, hi, hx, hl⟩ | ⟨h, hx⟩ | ⟨h, hx⟩ | ⟨h, hx⟩ | ⟨h, hx⟩ | ⟨h, hx⟩ | ⟨h, hx⟩ <;> simp only at h hx <;> subst h
  · simp only at hi hl
    have hs := ref28_Ev input q.sources.length hx hl
    simp only [toNat_cast, Nat.mul_one, input_okT hi, input_at hi, slN_sl, slC_sl]
    exact Ev.cond_t rfl (Ev.cond_t (decide_eq_true (by omega)) (Ev.cond_t (decide_eq_true (by omega)) (Ev.cond_t rfl (Ev.bind hs (Ev.cond_t rfl (Ev.some _))))))
  · exact Ev.cond_f rfl (Ev.cond_t rfl (Ev.bind (ref29_Ev input q.sources.length hx) (Ev.cond_t rfl (Ev.some _))))
  · exact Ev.cond_f rfl (Ev.cond_f rfl (Ev.cond_t rfl (Ev.bind (ref30_Ev input q.sources.length hx) (Ev.cond_t rfl (Ev.some _)))))
  · exact Ev.cond_f rfl (Ev.cond_f rfl (Ev.cond_f rfl (Ev.cond_t rfl (Ev.bind (ref32_Ev input q.sources.length hx h1 h4) (Ev.cond_t rfl (Ev.some _))))))
  · exact Ev.cond_f rfl (Ev.cond_f rfl (Ev.cond_f rfl (Ev.cond_f rfl (Ev.cond_t rfl (Ev.bind (ref33_Ev input q.sources.length hx) (Ev.cond_t rfl (Ev.some _)))))))
  · subst hx
    exact Ev.cond_f rfl (Ev.cond_f rfl (Ev.cond_f rfl (Ev.cond_f rfl (Ev.cond_f rfl (Ev.cond_f rfl (Ev.bind (ref34_Ev input q.sources.length false) (Ev.cond_t rfl (Ev.some _))))))))
  · subst hx
    exact Ev.cond_f rfl (Ev.cond_f rfl (Ev.cond_f rfl (Ev.cond_f rfl (Ev.cond_f rfl (Ev.cond_t rfl (Ev.bind (ref34_Ev input q.sources.length true) (Ev.cond_t rfl (Ev.some _))))))))

/-! The tasks' lists are small. -/
theorem rows_rep (n : Nat) (h : n ≤ 1000) : RowsOk [CK.i IntKind.i64] 1 n (List.replicate n minI) := by
  refine ⟨h, fun i hi => ?_⟩
  rw [Nat.mul_one, okT_cons]
  have : cellAt (List.replicate n minI) i = minI := by simp [cellAt, hi]
  rw [this]; rfl
theorem rows_items {l : List Item} (h : l.length ≤ 1000) : RowsOk kEvent 5 l.length (encItems l) := ⟨h, fun i hi => item_okT hi⟩
theorem taskOf_ok {input : List (List Item)} {n : Nat} (hn : n ≤ 1000) (hi : ∀ i, (inp input i).length ≤ 1000) (p : OpT) : TkOk (taskOf input n p) where
  pend := RowsOk.nil _ _ _
  marks := by
    unfold taskOf
    simp only
    repeat' split
    · exact rows_rep 1 (by omega)
    · exact rows_rep n hn
    · exact rows_rep 2 (by omega)
    · exact RowsOk.nil _ _ _
  store := RowsOk.nil _ _ _
  events := by
    unfold taskOf
    simp only
    split
    · exact rows_items (hi _)
    · exact RowsOk.nil _ _ _
  rows := RowsOk.nil _ _ _
  late := RowsOk.nil _ _ _

/-! What is asked. -/
def inErr : List (List Item) → Int
  | [] => 0
  | x :: l => if itemsErr x ≠ 0 then itemsErr x else inErr l
theorem inErr_at {l : List (List Item)} (h : inErr l = 0) (i : Nat) : itemsErr (inp l i) = 0 := by
  induction l generalizing i with
  | nil => unfold inp; simp [itemsErr]
  | cons x l ih =>
    unfold inErr at h
    split at h
    · rename_i h1; exact absurd h h1
    · rename_i h1
      cases i with
      | zero => unfold inp; simpa using h1
      | succ i =>
        have := ih h i
        unfold inp at this ⊢
        simpa using this
theorem inErr_drop {l : List (List Item)} {i : Nat} (h : i < l.length) : inErr (l.drop i) = if itemsErr (inp l i) ≠ 0 then itemsErr (inp l i) else inErr (l.drop (i + 1)) := by
  rw [List.drop_eq_getElem_cons h, inErr]
  unfold inp
  rw [List.getElem?_eq_getElem h]
  rfl
def numErr (p room : Int) : Int := if p < 1 ∨ 3 < p ∨ room < 1 ∨ 8 < room then 2 else 0
def askErr (q : Query) (input : List (List Item)) (p room : Int) : Int :=
  if (checkRes q).2 ≠ 0 then (checkRes q).2 else if input.length ≠ q.sources.length then 2 else if inErr input ≠ 0 then inErr input else numErr p room

theorem W_succ' {a b : Nat} (h : b ≤ 1000000) (h' : a < b) : IntKind.wrap .i64 ((a : Int) + 1) = ((a + 1 : Nat) : Int) := by rw [wrap_i64 (by omega) (by omega)]; omega
theorem asked_loop {input : List (List Item)} (hb : input.length ≤ 1000000) (p room : Int) : ∀ k i : Nat, i + k = input.length →
    Ev (fun N => S_ref36_Asked_7 N input.length (encInput input) p room (i : Int)) (.int .i64 (if inErr (input.drop i) ≠ 0 then inErr (input.drop i) else numErr p room))
  | 0, i, hi => by
    have e : input.drop i = [] := List.drop_eq_nil_of_le (by omega)
    rw [e, if_neg (by simp [inErr])]
    refine Ev.succ (fun N => S_ref36_Asked_7_eq N _ _ _ _ _) (Ev.cond_f (decide_eq_false (by omega)) ?_)
    unfold numErr
    by_cases g1 : p < 1
    · rw [if_pos (by omega)]; exact Ev.cond_t (decide_eq_true g1) (Ev.some _)
    refine Ev.cond_f (decide_eq_false g1) ?_
    by_cases g2 : p > 3
    · rw [if_pos (by omega)]; exact Ev.cond_t (decide_eq_true g2) (Ev.some _)
    refine Ev.cond_f (decide_eq_false g2) ?_
    by_cases g3 : room < 1
    · rw [if_pos (by omega)]; exact Ev.cond_t (decide_eq_true g3) (Ev.some _)
    refine Ev.cond_f (decide_eq_false g3) ?_
    by_cases g4 : room > 8
    · rw [if_pos (by omega)]; exact Ev.cond_t (decide_eq_true g4) (Ev.some _)
    refine Ev.cond_f (decide_eq_false g4) ?_
    rw [if_neg (by omega)]
    exact Ev.some _
  | k + 1, i, hi => by
    have hi' : i < input.length := by omega
    have ih := asked_loop hb p room k (i + 1) (by omega)
    refine Ev.succ (fun N => S_ref36_Asked_7_eq N _ _ _ _ _) ?_
    simp only [toNat_cast, Nat.mul_one, input_okT hi', input_at hi', slN_sl, slC_sl]
    refine Ev.cond_t (decide_eq_true (by omega)) (Ev.cond_t (decide_eq_true (by omega)) (Ev.cond_t (decide_eq_true (by omega)) (Ev.cond_t rfl (Ev.bind (ref20_Check (inp input i)) (Ev.cond_t rfl ?_)))))
    simp only [cells_int, cellAt_zero, toI_int, cond_bne]
    rw [inErr_drop hi']
    by_cases h0 : itemsErr (inp input i) = 0
    · refine Ev.if_pos h0 ?_
      have e1 : (if itemsErr (inp input i) ≠ 0 then itemsErr (inp input i) else inErr (input.drop (i + 1))) = inErr (input.drop (i + 1)) := if_neg (fun h => h h0)
      rw [e1, W_succ' hb hi']
      exact ih
    · refine Ev.if_neg h0 ?_
      have e1 : (if itemsErr (inp input i) ≠ 0 then itemsErr (inp input i) else inErr (input.drop (i + 1))) = itemsErr (inp input i) := if_pos h0
      rw [e1, if_pos h0]
      exact Ev.some _

theorem ref36_Asked {q : Query} (hq : QOk q) {input : List (List Item)} (hb : input.length ≤ 1000000) (p room : Int) :
    Ev (fun N => call cc N n_ref36_Asked [.agg (encQ q), .sl input.length (encInput input), .int .i64 p, .int .i64 room]) (.int .i64 (askErr q input p room)) := by
  have hc := ref10_Check hq
  unfold encQ at hc ⊢
  refine Ev.succ (fun N => F_ref36_Asked N _ _ _ _ _ _ _ _ _ _ _ _ _ _ _ _ _) (Ev.bind hc (Ev.cond_t (by simp) ?_))
  simp only [cs_tup, cellAt_succ, cellAt_zero, cells_int, toI_int, cond_bne]
  unfold askErr
  by_cases h : (checkRes q).2 = 0
  · refine Ev.if_pos h ?_
    rw [if_neg (fun h' => h' h)]
    by_cases h2 : input.length = q.sources.length
    · refine Ev.if_pos (by omega) ?_
      rw [if_neg (fun h' => h' h2)]
      exact asked_loop hb p room input.length 0 (by omega)
    · refine Ev.if_neg (by omega) ?_
      rw [if_pos h2]
      exact Ev.some _
  · refine Ev.if_neg h ?_
    rw [if_pos h]
    exact Ev.some _
end Go.Pv

/- ref36.Made, ref36.Build. -/
namespace Go.Pv

def opn (l : List OpT) (i : Nat) : OpT := l[i]?.getD default
theorem op_k {l : List OpT} {i : Nat} (h : i < l.length) (k : Nat) (hk : k < 2) : cellAt (encOps l) (i * 2 + k) = cellAt (opV (opn l i)) k := cellAt_flat opV 2 (fun _ => rfl) l i k h hk
theorem op_0 {l : List OpT} {i : Nat} (h : i < l.length) : cellAt (encOps l) (i * 2) = .int .u8 ((opn l i).1 : Int) := op_k h 0 (by omega)
theorem op_1 {l : List OpT} {i : Nat} (h : i < l.length) : cellAt (encOps l) (i * 2 + 1) = .int .i64 ((opn l i).2 : Int) := op_k h 1 (by omega)
theorem op_okT {l : List OpT} {i : Nat} (h : i < l.length) : okT [CK.i IntKind.u8, CK.i IntKind.i64] (encOps l) (i * 2) = true := by
  simp only [okT_cons, op_0 h, op_1 h]; rfl
theorem opn_mem {l : List OpT} {i : Nat} (h : i < l.length) : opn l i ∈ l := by unfold opn; rw [List.getElem?_eq_getElem h]; exact List.getElem_mem h
theorem ch_k {room : Int} {l : List ChT} {i : Nat} (h : i < l.length) (k : Nat) (hk : k < 5) : cellAt (encChs room l) (i * 5 + k) = cellAt (chV room (l[i]?.getD default)) k := cellAt_flat (chV room) 5 (fun _ => rfl) l i k h hk
theorem ch_4 {room : Int} {l : List ChT} {i : Nat} (h : i < l.length) : cellAt (encChs room l) (i * 5 + 4) = .int .i64 room := ch_k h 4 (by omega)
theorem ch_okT4 {room : Int} {l : List ChT} {i : Nat} (h : i < l.length) : okT [CK.i IntKind.i64] (encChs room l) (i * 5 + 4) = true := by
  simp only [okT_cons, ch_4 h]; rfl
theorem ch_okT {room : Int} {l : List ChT} {i : Nat} (h : i < l.length) : okT [CK.i IntKind.i64, CK.i IntKind.i64, CK.i IntKind.i64, CK.i IntKind.i64, CK.i IntKind.i64] (encChs room l) (i * 5) = true := by
  have h0 : cellAt (encChs room l) (i * 5) = .int .i64 ((l[i]?.getD default).1 : Int) := ch_k h 0 (by omega)
  have h1 : cellAt (encChs room l) (i * 5 + 1) = .int .i64 ((l[i]?.getD default).2.1 : Int) := ch_k h 1 (by omega)
  have h2 : cellAt (encChs room l) (i * 5 + 1 + 1) = .int .i64 ((l[i]?.getD default).2.2.1 : Int) := ch_k h 2 (by omega)
  have h3 : cellAt (encChs room l) (i * 5 + 1 + 1 + 1) = .int .i64 ((l[i]?.getD default).2.2.2 : Int) := ch_k h 3 (by omega)
  have h4 : cellAt (encChs room l) (i * 5 + 1 + 1 + 1 + 1) = .int .i64 room := ch_k h 4 (by omega)
  simp only [okT_cons, h0, h1, h2, h3, h4]; rfl
def tasksTo (input : List (List Item)) (n : Nat) (ops : List OpT) (j : Nat) : List Tk := (ops.take j).map (taskOf input n)
theorem tasksTo_len {input : List (List Item)} {n : Nat} {ops : List OpT} {j : Nat} (h : j ≤ ops.length) : (tasksTo input n ops j).length = j := by simp [tasksTo, h]
theorem tasksTo_succ {input : List (List Item)} {n : Nat} {ops : List OpT} {j : Nat} (h : j < ops.length) : encTks (tasksTo input n ops j) ++ encTk (taskOf input n (opn ops j)) = encTks (tasksTo input n ops (j + 1)) := by
  rw [encTks_snoc]
  unfold tasksTo opn
  rw [List.take_add_one, List.getElem?_eq_getElem h]
  simp only [List.map_append, Option.toList_some, List.map_cons, List.map_nil, Option.getD_some]

section
variable {q : Query} {input : List (List Item)} {room : Int}

theorem channel_Ev (h1 : 1 ≤ room) (h8 : room ≤ 8) : Ev (fun N => call cc N n_channel_New [.int .i64 room]) (.tup [.agg [.int .i64 room, .sl 0 []], .int .i64 0]) :=
  Ev.succ (fun N => F_channel_New N _) (Ev.cond_f (decide_eq_false (by omega)) (Ev.cond_f (decide_eq_false (by omega)) (Ev.some _)))
theorem ref26_Ev (h1 : 1 ≤ room) (h8 : room ≤ 8) : Ev (fun N => call cc N n_ref26_New [.int .i64 room]) (.tup [.agg [.int .i64 room, .sl 0 []], .int .i64 0]) :=
  Ev.succ (fun N => F_ref26_New N _) (Ev.cond_f (decide_eq_false (by omega)) (Ev.cond_f (decide_eq_false (by omega)) (Ev.some _)))

theorem made_8 (h1 : 1 ≤ room) (h8 : room ≤ 8) (z1 : Int) (z2 : Bool) (z3 z4 z5 : Int) (z6 : Bool) (z7 : Int) (no : Nat) (co : List V) (cs : List ChT) (hl : cs.length ≤ 100) (nt : Nat) (ct : List V) : ∀ k j : Nat, j + k = cs.length →
    Ev (fun N => S_ref36_Made_8 N (j : Int) z1 z2 z3 z4 z5 z6 z7 q.agg q.arg.length (encNodes q.arg) q.sources.length (ints q.sources) q.join q.where_.length (encNodes q.where_) q.win.kind q.win.size q.win.every q.byKey q.late no co cs.length (encChs room cs) nt j ct (encQs room j)) (.agg (encQ q ++ [.sl no co, .sl cs.length (encChs room cs), .sl nt ct, .sl cs.length (encQs room cs.length)]))
  | 0, j, hj => by
    obtain rfl : j = cs.length := by omega
    exact Ev.succ (fun N => S_ref36_Made_8_eq N _ _ _ _ _ _ _ _ _ _ _ _ _ _ _ _ _ _ _ _ _ _ _ _ _ _ _ _ _) (Ev.cond_f (decide_eq_false (by omega)) (Ev.succ (fun N => S_ref36_Made_12_eq N _ _ _ _ _ _ _ _ _ _ _ _ _ _ _ _ _ _ _ _ _ _ _ _ _ _ _ _) (Ev.some _)))
  | k + 1, j, hj => by
    have hj' : j < cs.length := by omega
    have ih := made_8 h1 h8 z1 z2 z3 z4 z5 z6 z7 no co cs hl nt ct k (j + 1) (by omega)
    refine Ev.succ (fun N => S_ref36_Made_8_eq N _ _ _ _ _ _ _ _ _ _ _ _ _ _ _ _ _ _ _ _ _ _ _ _ _ _ _ _ _) (Ev.cond_t (decide_eq_true (by omega)) (Ev.succ (fun N => S_ref36_Made_10_eq N _ _ _ _ _ _ _ _ _ _ _ _ _ _ _ _ _ _ _ _ _ _ _ _ _ _ _ _ _) ?_))
    simp only [toNat_cast, ch_okT4 hj', ch_4 hj', toI_int]
    refine Ev.cond_t (decide_eq_true (by omega)) (Ev.cond_t (decide_eq_true (by omega)) (Ev.cond_t rfl (Ev.bind (ref26_Ev h1 h8) (Ev.cond_t rfl (Ev.cond_t (lt_bound (m := 1000) (by omega) (Nat.le_refl _)) ?_)))))
    rw [W_succ (by omega)]
    rw [← encQs_snoc] at ih
    exact ih

theorem made_4 (hs1 : 1 ≤ q.sources.length) (hs4 : q.sources.length ≤ 4) (h1 : 1 ≤ room) (h8 : room ≤ 8) (z1 : Int) (z2 : Bool) (z3 z4 z5 : Int) (z6 : Bool) (z7 : Int) (ops : List OpT) (cs : List ChT) (ho : ops.length ≤ 100) (hc : cs.length ≤ 100) (hop : ∀ p ∈ ops, GOpOk input p) : ∀ k j : Nat, j + k = ops.length →
    Ev (fun N => S_ref36_Made_4 N input.length (encInput input) (j : Int) q.agg q.arg.length (encNodes q.arg) q.sources.length (ints q.sources) q.join q.where_.length (encNodes q.where_) q.win.kind q.win.size q.win.every q.byKey q.late z1 z2 z3 z4 z5 z6 z7 q.agg q.arg.length (encNodes q.arg) q.sources.length (ints q.sources) q.join q.where_.length (encNodes q.where_) q.win.kind q.win.size q.win.every q.byKey q.late ops.length (encOps ops) cs.length (encChs room cs) j 0 (encTks (tasksTo input q.sources.length ops j)) (encQs room 0)) (.agg (encQ q ++ [.sl ops.length (encOps ops), .sl cs.length (encChs room cs), .sl ops.length (encTks (tasksTo input q.sources.length ops ops.length)), .sl cs.length (encQs room cs.length)]))
  | 0, j, hj => by
    obtain rfl : j = ops.length := by omega
    exact Ev.succ (fun N => S_ref36_Made_4_eq N _ _ _ _ _ _ _ _ _ _ _ _ _ _ _ _ _ _ _ _ _ _ _ _ _ _ _ _ _ _ _ _ _ _ _ _ _ _ _ _ _ _ _ _) (Ev.cond_f (decide_eq_false (by omega)) (Ev.succ (fun N => S_ref36_Made_7_eq N _ _ _ _ _ _ _ _ _ _ _ _ _ _ _ _ _ _ _ _ _ _ _ _ _ _ _ _) (made_8 h1 h8 z1 z2 z3 z4 z5 z6 z7 _ _ cs hc _ _ cs.length 0 (by omega))))
  | k + 1, j, hj => by
    have hj' : j < ops.length := by omega
    have ih := made_4 hs1 hs4 h1 h8 z1 z2 z3 z4 z5 z6 z7 ops cs ho hc hop k (j + 1) (by omega)
    have hf := ref36_fresh hs1 hs4 (hop _ (opn_mem hj'))
    unfold encQ at hf
    refine Ev.succ (fun N => S_ref36_Made_4_eq N _ _ _ _ _ _ _ _ _ _ _ _ _ _ _ _ _ _ _ _ _ _ _ _ _ _ _ _ _ _ _ _ _ _ _ _ _ _ _ _ _ _ _ _) (Ev.cond_t (decide_eq_true (by omega)) (Ev.succ (fun N => S_ref36_Made_6_eq N _ _ _ _ _ _ _ _ _ _ _ _ _ _ _ _ _ _ _ _ _ _ _ _ _ _ _ _ _ _ _ _ _ _ _ _ _ _ _ _ _ _ _ _) ?_))
    simp only [toNat_cast, op_okT hj', op_0 hj', op_1 hj', toI_int]
    refine Ev.cond_t (decide_eq_true (by omega)) (Ev.cond_t (decide_eq_true (by omega)) (Ev.cond_t rfl (Ev.bind hf (Ev.cond_t rfl (Ev.cond_t (lt_bound (m := 1000) (by omega) (Nat.le_refl _)) ?_)))))
    rw [W_succ (by omega)]
    rw [← tasksTo_succ hj'] at ih
    exact ih
end

/-! The graph's operators fit the input. -/
def opFit (n : Nat) (p : OpT) : Bool := (decide (p.1 = 1) && decide (p.2 < n)) || ((decide (p.1 = 2) && decide (p.2 < 4)) || ((decide (p.1 = 3) && decide (p.2 < 4)) || ((decide (p.1 = 4) && decide (p.2 < 3)) || ((decide (p.1 = 5) && decide (p.2 < 3)) || ((decide (p.1 = 6) && decide (p.2 = 0)) || (decide (p.1 = 7) && decide (p.2 = 0)))))))
theorem fit_all : ∀ n, n < 5 → ∀ p, p < 4 → ∀ key jn side, (l6 n p key jn side).all (opFit n) = true := by decide +kernel
theorem ops_ok {input : List (List Item)} (hi : inErr input = 0) {n p : Nat} (hn : n < 5) (hp : p < 4) (hlen : input.length = n) (key jn side : Bool) : ∀ x ∈ l6 n p key jn side, GOpOk input x := by
  intro x hx
  have h := List.all_eq_true.1 (fit_all n hn p hp key jn side) x hx
  unfold opFit at h
  simp only [Bool.or_eq_true, Bool.and_eq_true, decide_eq_true_eq] at h
  unfold GOpOk
  rcases h with h | h | h | h | h | h | h
  · exact .inl ⟨h.1, by omega, by omega, inErr_at hi _⟩
  · exact .inr (.inl h)
  · exact .inr (.inr (.inl h))
  · exact .inr (.inr (.inr (.inl h)))
  · exact .inr (.inr (.inr (.inr (.inl h))))
  · exact .inr (.inr (.inr (.inr (.inr (.inl h)))))
  · exact .inr (.inr (.inr (.inr (.inr (.inr h)))))

theorem sources_of {q : Query} (hc : (checkRes q).2 = 0) : 1 ≤ q.sources.length ∧ q.sources.length < 5 := by
  have h0 : clausesErr q = 0 := by
    by_cases h : clausesErr q = 0
    · exact h
    · unfold checkRes at hc; rw [if_pos h] at hc; exact absurd hc h
  have hs := (clausesErr_0 h0).2.2.2.2.1
  unfold srcErr at hs
  split at hs
  · omega
  · split at hs
    · omega
    · omega

/-- The machine. -/
def machine (q : Query) (input : List (List Item)) (p : Nat) (room : Int) : List V :=
  encM q ((l6 q.sources.length p q.byKey q.join (q.late == 2)).length, encOps (l6 q.sources.length p q.byKey q.join (q.late == 2)))
    ((kc4 q.sources.length p q.byKey q.join (q.late == 2)).length, encChs room (kc4 q.sources.length p q.byKey q.join (q.late == 2)))
    ((l6 q.sources.length p q.byKey q.join (q.late == 2)).map (taskOf input q.sources.length))
    ((kc4 q.sources.length p q.byKey q.join (q.late == 2)).length, encQs room (kc4 q.sources.length p q.byKey q.join (q.late == 2)).length)
theorem tasksTo_all (input : List (List Item)) (n : Nat) (ops : List OpT) : tasksTo input n ops ops.length = ops.map (taskOf input n) := by simp [tasksTo]
theorem machine_eq (q : Query) (input : List (List Item)) (p : Nat) (room : Int) (ops : List OpT) (cs : List ChT) (ho : ops = l6 q.sources.length p q.byKey q.join (q.late == 2)) (hcs : cs = kc4 q.sources.length p q.byKey q.join (q.late == 2)) :
    encQ q ++ [.sl ops.length (encOps ops), .sl cs.length (encChs room cs), .sl ops.length (encTks (tasksTo input q.sources.length ops ops.length)), .sl cs.length (encQs room cs.length)] = machine q input p room := by
  unfold machine encM slv
  rw [tasksTo_all, List.length_map, ← ho, ← hcs]

theorem ref36_Made {q : Query} (hq : QOk q) (hg : greatQ q = false) {input : List (List Item)} {p : Nat} {room : Int} (ha : askErr q input p room = 0) :
    Ev (fun N => call cc N n_ref36_Made [.agg (encQ q), .sl input.length (encInput input), .int .i64 p, .int .i64 room]) (.agg (machine q input p room)) := by
  have hc : (checkRes q).2 = 0 := by
    by_cases h : (checkRes q).2 = 0
    · exact h
    · unfold askErr at ha; rw [if_pos h] at ha; exact absurd ha h
  unfold askErr at ha
  rw [if_neg (fun h => h hc)] at ha
  have hlen : input.length = q.sources.length := by
    by_cases h : input.length = q.sources.length
    · exact h
    · rw [if_pos h] at ha; cases ha
  rw [if_neg (fun h => h hlen)] at ha
  have hi : inErr input = 0 := by
    by_cases h : inErr input = 0
    · exact h
    · rw [if_pos h] at ha; exact absurd ha h
  rw [if_neg (fun h => h hi)] at ha
  have hn : ¬ ((p : Int) < 1 ∨ 3 < (p : Int) ∨ room < 1 ∨ 8 < room) := by
    intro h; unfold numErr at ha; rw [if_pos h] at ha; cases ha
  obtain ⟨s1, s5⟩ := sources_of hc
  obtain ⟨b6, _, _, bc, _, _⟩ := small_lists q.sources.length s5 p (by omega) q.byKey q.join (q.late == 2)
  have h1 := ref22_Of hg hq
  have h2 : Ev (fun N => call cc N n_ref08_Twin [.agg (encQ q)]) (.agg (encQ q)) := Ev.of 1 (ref08_Twin hg)
  have h3 := ref24_Made (q := q) ⟨s1, s5⟩ (p := p) (by omega) (by omega) room
  have hp : planRes q = .tup [.agg (encPlan q), .int .i64 0] := by unfold planRes; rw [if_neg (fun h => h hc)]
  rw [hp] at h1
  have main := made_4 (q := q) (input := input) (room := room) s1 (by omega) (by omega) (by omega) 0 false 0 0 0 false 0 (l6 q.sources.length p q.byKey q.join (q.late == 2)) (kc4 q.sources.length p q.byKey q.join (q.late == 2)) b6 bc (ops_ok hi s5 (by omega) hlen _ _ _) _ 0 (Nat.zero_add _)
  rw [machine_eq q input p room _ _ rfl rfl] at main
  unfold encPlan at h1 h3
  unfold encQ at h1 h2 h3 ⊢
  exact Ev.succ (fun N => F_ref36_Made N _ _ _ _ _ _ _ _ _ _ _ _ _ _ _ _ _) (Ev.bind h1 (Ev.cond_t rfl (Ev.bind h2 (Ev.cond_t rfl (Ev.bind h3 (Ev.cond_t rfl main))))))

def q0 : Query := ⟨0, [], [], false, [], ⟨0, 0, 0⟩, false, 0⟩
def zeroM : List V := encM q0 (0, []) (0, []) [] (0, encQs 0 0)
def buildRes (q : Query) (input : List (List Item)) (p : Nat) (room : Int) (e : Int) : V := if e ≠ 0 then .tup [.agg zeroM, .int .i64 e] else .tup [.agg (machine q input p room), .int .i64 0]
theorem askErr_num {q : Query} {input : List (List Item)} {p room : Int} (h : askErr q input p room = 0) : 1 ≤ p ∧ p ≤ 3 := by
  unfold askErr at h
  repeat' split at h
  · contradiction
  · cases h
  · contradiction
  · unfold numErr at h
    split at h
    · cases h
    · omega
theorem ref36_Build {q : Query} (hq : QOk q) (hg : greatQ q = false) {input : List (List Item)} (hb : input.length ≤ 1000000) (p room : Int) :
    Ev (fun N => call cc N n_ref36_Build [.agg (encQ q), .sl input.length (encInput input), .int .i64 p, .int .i64 room]) (buildRes q input p.toNat room (askErr q input p room)) := by
  have h1 := ref36_Asked hq hb p room
  unfold buildRes
  by_cases he : askErr q input p room = 0
  · have hp := askErr_num he
    obtain ⟨p', rfl⟩ : ∃ p' : Nat, p = p' := ⟨p.toNat, by omega⟩
    have h2 := ref36_Made hq hg he
    rw [he] at h1
    rw [if_neg (fun h => h he), toNat_cast]
    unfold encQ at h1 h2 ⊢
    exact Ev.succ (fun N => F_ref36_Build N _ _ _ _ _ _ _ _ _ _ _ _ _ _ _ _ _) (Ev.bind h1 (Ev.cond_t rfl (Ev.cond_f rfl (Ev.bind h2 (Ev.cond_t rfl (Ev.some _))))))
  · rw [if_pos he]
    unfold encQ at h1 ⊢
    refine Ev.succ (fun N => F_ref36_Build N _ _ _ _ _ _ _ _ _ _ _ _ _ _ _ _ _) (Ev.bind h1 (Ev.cond_t rfl (Ev.cond_t ?_ (Ev.some _))))
    exact bne_iff_ne.2 he
end Go.Pv

/- build.Build; the law. -/
namespace Go.Pv

section
variable {q : Query} {input : List (List Item)} {room : Int}

theorem build_31 (h1 : 1 ≤ room) (h8 : room ≤ 8) (z1 : Int) (z2 : Bool) (z3 z4 z5 : Int) (z6 : Bool) (z7 : Int) (ops : List OpT) (cs : List ChT) (hl : cs.length ≤ 100) (nt : Nat) (ct : List V) : ∀ k j : Nat, j + k = cs.length →
    Ev (fun N => S_build_Build_31 N cs.length (encChs room cs) cs.length (j : Int) z1 z2 z3 z4 z5 z6 z7 q.agg q.arg.length q.sources.length q.join q.where_.length q.win.kind q.win.size q.win.every q.byKey q.late ops.length (encOps ops) cs.length (encChs room cs) nt j (encNodes q.arg) (ints q.sources) (encNodes q.where_) ct (encQs room j)) (.tup [.agg (encQ q ++ [.sl ops.length (encOps ops), .sl cs.length (encChs room cs), .sl nt ct, .sl cs.length (encQs room cs.length)]), .int .i64 0])
  | 0, j, hj => by
    obtain rfl : j = cs.length := by omega
    exact Ev.succ (fun N => S_build_Build_31_eq N _ _ _ _ _ _ _ _ _ _ _ _ _ _ _ _ _ _ _ _ _ _ _ _ _ _ _ _ _ _ _ _) (Ev.cond_f (decide_eq_false (by omega)) (Ev.succ (fun N => S_build_Build_38_eq N _ _ _ _ _ _ _ _ _ _ _ _ _ _ _ _ _ _ _ _ _ _ _ _ _ _ _ _) (Ev.some _)))
  | k + 1, j, hj => by
    have hj' : j < cs.length := by omega
    have ih := build_31 h1 h8 z1 z2 z3 z4 z5 z6 z7 ops cs hl nt ct k (j + 1) (by omega)
    have c4 : cellAt (encChs room cs) (j * 5 + 1 + 1 + 1 + 1) = .int .i64 room := ch_k hj' 4 (by omega)
    refine Ev.succ (fun N => S_build_Build_31_eq N _ _ _ _ _ _ _ _ _ _ _ _ _ _ _ _ _ _ _ _ _ _ _ _ _ _ _ _ _ _ _ _) (Ev.cond_t (decide_eq_true (by omega)) (Ev.succ (fun N => S_build_Build_32_eq N _ _ _ _ _ _ _ _ _ _ _ _ _ _ _ _ _ _ _ _ _ _ _ _ _ _ _ _ _ _ _ _) ?_))
    simp only [toNat_cast, ch_okT hj', c4, toI_int]
    refine Ev.cond_t (decide_eq_true (by omega)) (Ev.cond_t (decide_eq_true (by omega)) (Ev.cond_t rfl (Ev.bind (channel_Ev h1 h8) (Ev.cond_t rfl (Ev.cond_f rfl (Ev.succ (fun N => S_build_Build_36_eq N _ _ _ _ _ _ _ _ _ _ _ _ _ _ _ _ _ _ _ _ _ _ _ _ _ _ _ _ _ _ _ _ _ _ _) (Ev.cond_t (lt_bound (m := 1000) (by omega) (Nat.le_refl _)) (Ev.succ (fun N => S_build_Build_37_eq N _ _ _ _ _ _ _ _ _ _ _ _ _ _ _ _ _ _ _ _ _ _ _ _ _ _ _ _ _ _ _ _) ?_))))))))
    rw [W_succ (by omega)]
    rw [← encQs_snoc] at ih
    exact ih

theorem build_23 (hs1 : 1 ≤ q.sources.length) (hs4 : q.sources.length ≤ 4) (h1 : 1 ≤ room) (h8 : room ≤ 8) (z1 : Int) (z2 : Bool) (z3 z4 z5 : Int) (z6 : Bool) (z7 : Int) (ops : List OpT) (cs : List ChT) (ho : ops.length ≤ 100) (hc : cs.length ≤ 100) (hop : ∀ p ∈ ops, GOpOk input p) : ∀ k j : Nat, j + k = ops.length →
    Ev (fun N => S_build_Build_23 N ops.length (encOps ops) ops.length (j : Int) z1 z2 z3 z4 z5 z6 z7 ops.length (encOps ops) cs.length (encChs room cs) q.agg q.arg.length q.sources.length q.join q.where_.length q.win.kind q.win.size q.win.every q.byKey q.late ops.length (encOps ops) cs.length (encChs room cs) j 0 (encNodes q.arg) (ints q.sources) (encNodes q.where_) (encTks (tasksTo input q.sources.length ops j)) (encQs room 0) input.length (encInput input) q.agg q.arg.length q.sources.length q.join q.where_.length q.win.kind q.win.size q.win.every q.byKey q.late) (.tup [.agg (encQ q ++ [.sl ops.length (encOps ops), .sl cs.length (encChs room cs), .sl ops.length (encTks (tasksTo input q.sources.length ops ops.length)), .sl cs.length (encQs room cs.length)]), .int .i64 0])
  | 0, j, hj => by
    obtain rfl : j = ops.length := by omega
    exact Ev.succ (fun N => S_build_Build_23_eq N _ _ _ _ _ _ _ _ _ _ _ _ _ _ _ _ _ _ _ _ _ _ _ _ _ _ _ _ _ _ _ _ _ _ _ _ _ _ _ _ _ _ _ _ _ _ _ _) (Ev.cond_f (decide_eq_false (by omega)) (Ev.succ (fun N => S_build_Build_30_eq N _ _ _ _ _ _ _ _ _ _ _ _ _ _ _ _ _ _ _ _ _ _ _ _ _ _ _ _ _ _ _ _) (build_31 h1 h8 z1 z2 z3 z4 z5 z6 z7 ops cs hc _ _ cs.length 0 (by omega))))
  | k + 1, j, hj => by
    have hj' : j < ops.length := by omega
    have ih := build_23 hs1 hs4 h1 h8 z1 z2 z3 z4 z5 z6 z7 ops cs ho hc hop k (j + 1) (by omega)
    have ok := hop _ (opn_mem hj')
    have tail : ∀ t : Tk, t = taskOf input q.sources.length (opn ops j) → Ev (fun N => S_build_Build_28 N ops.length (encOps ops) ops.length (j : Int) z1 z2 z3 z4 z5 z6 z7 ops.length (encOps ops) cs.length (encChs room cs) q.agg q.arg.length q.sources.length q.join q.where_.length q.win.kind q.win.size q.win.every q.byKey q.late ops.length (encOps ops) cs.length (encChs room cs) j 0 t.kind t.n t.turn t.pend.1 t.pend.2 t.marks.1 t.marks.2 t.store.1 t.store.2 t.events.1 t.events.2 t.rows.1 t.rows.2 t.late.1 t.late.2 (encNodes q.arg) (ints q.sources) (encNodes q.where_) (encTks (tasksTo input q.sources.length ops j)) (encQs room 0) input.length (encInput input) q.agg q.arg.length q.sources.length q.join q.where_.length q.win.kind q.win.size q.win.every q.byKey q.late) (.tup [.agg (encQ q ++ [.sl ops.length (encOps ops), .sl cs.length (encChs room cs), .sl ops.length (encTks (tasksTo input q.sources.length ops ops.length)), .sl cs.length (encQs room cs.length)]), .int .i64 0]) := by
      intro t ht
      refine Ev.succ (fun N => S_build_Build_28_eq N _ _ _ _ _ _ _ _ _ _ _ _ _ _ _ _ _ _ _ _ _ _ _ _ _ _ _ _ _ _ _ _ _ _ _ _ _ _ _ _ _ _ _ _ _ _ _ _ _ _ _ _ _ _ _ _ _ _ _ _ _ _ _) (Ev.cond_t (lt_bound (m := 1000) (by omega) (Nat.le_refl _)) (Ev.succ (fun N => S_build_Build_29_eq N _ _ _ _ _ _ _ _ _ _ _ _ _ _ _ _ _ _ _ _ _ _ _ _ _ _ _ _ _ _ _ _ _ _ _ _ _ _ _ _ _ _ _ _ _ _ _ _) ?_))
      rw [W_succ (by omega)]
      rw [← tasksTo_succ hj', ← ht] at ih
      exact ih
    refine Ev.succ (fun N => S_build_Build_23_eq N _ _ _ _ _ _ _ _ _ _ _ _ _ _ _ _ _ _ _ _ _ _ _ _ _ _ _ _ _ _ _ _ _ _ _ _ _ _ _ _ _ _ _ _ _ _ _ _) (Ev.cond_t (decide_eq_true (by omega)) (Ev.succ (fun N => S_build_Build_24_eq N _ _ _ _ _ _ _ _ _ _ _ _ _ _ _ _ _ _ _ _ _ _ _ _ _ _ _ _ _ _ _ _ _ _ _ _ _ _ _ _ _ _ _ _ _ _ _ _) ?_))
    simp only [toNat_cast, op_okT hj', op_0 hj', op_1 hj', toI_int]
    refine Ev.cond_t (decide_eq_true (by omega)) (Ev.cond_t (decide_eq_true (by omega)) (Ev.cond_t rfl ?_))
    generalize opn ops j = o at ok tail
    obtain ⟨kd, x⟩ := o
    rcases ok with ⟨h, hi, hx, hl⟩ | ⟨h, hx⟩ | ⟨h, hx⟩ | ⟨h, hx⟩ | ⟨h, hx⟩ | ⟨h, hx⟩ | ⟨h, hx⟩ <;> simp only at h hx <;> subst h <;> dsimp only
    · exact Ev.cond_t rfl (Ev.cond_t rfl (Ev.cond_t rfl (Ev.bind (build_1_Ev input q.sources.length hx hi hl) (Ev.cond_t rfl (Ev.cond_f rfl (tail _ rfl))))))
    · exact Ev.cond_t rfl (Ev.cond_t rfl (Ev.cond_f rfl (Ev.cond_t rfl (Ev.bind (filter_Ev input q.sources.length hx) (Ev.cond_t rfl (Ev.cond_f rfl (tail _ rfl)))))))
    · exact Ev.cond_t rfl (Ev.cond_t rfl (Ev.cond_f rfl (Ev.cond_f rfl (Ev.cond_t rfl (Ev.bind (part_Ev input q.sources.length hx) (Ev.cond_t rfl (Ev.cond_f rfl (tail _ rfl))))))))
    · exact Ev.cond_t rfl (Ev.cond_t rfl (Ev.cond_f rfl (Ev.cond_f rfl (Ev.cond_f rfl (Ev.cond_t rfl (Ev.bind (build_2_Ev input (q := q) hx hs1 hs4) (Ev.cond_t rfl (Ev.cond_f rfl (tail _ rfl)))))))))
    · exact Ev.cond_t rfl (Ev.cond_t rfl (Ev.cond_f rfl (Ev.cond_f rfl (Ev.cond_f rfl (Ev.cond_f rfl (Ev.cond_t rfl (Ev.bind (join_Ev input q.sources.length hx) (Ev.cond_t rfl (Ev.cond_f rfl (tail _ rfl))))))))))
    · subst hx
      exact Ev.cond_t rfl (Ev.cond_t rfl (Ev.cond_f rfl (Ev.cond_f rfl (Ev.cond_f rfl (Ev.cond_f rfl (Ev.cond_f rfl (Ev.cond_t rfl (Ev.bind (build_3_Ev input q.sources.length _) (Ev.cond_t rfl (Ev.cond_f rfl (tail _ rfl)))))))))))
    · subst hx
      exact Ev.cond_t rfl (Ev.cond_t rfl (Ev.cond_f rfl (Ev.cond_f rfl (Ev.cond_f rfl (Ev.cond_f rfl (Ev.cond_f rfl (Ev.cond_f rfl (Ev.cond_t rfl (Ev.bind (build_4_Ev input q.sources.length _) (Ev.cond_t rfl (Ev.cond_f rfl (tail _ rfl))))))))))))

/-- Behind the look at the input. -/
theorem build_13 (hq : QOk q) (hc : (checkRes q).2 = 0) (hlen : input.length = q.sources.length) (hi : inErr input = 0) (p : Int) (z1 : Int) (z2 : Bool) (z3 z4 z5 : Int) (z6 : Bool) (z7 : Int) :
    Ev (fun N => S_build_Build_13 N p room q.agg q.arg.length (encNodes q.arg) q.sources.length (ints q.sources) q.join q.where_.length (encNodes q.where_) q.win.kind q.win.size q.win.every q.byKey q.late input.length (encInput input) z1 z2 z3 z4 z5 z6 z7) (buildRes q input p.toNat room (numErr p room)) := by
  obtain ⟨s1, s5⟩ := sources_of hc
  have h1 := plan_Of hq
  have hp : planRes q = .tup [.agg (encPlan q), .int .i64 0] := by unfold planRes; rw [if_neg (fun h => h hc)]
  rw [hp] at h1
  have h2 := graph_Of hq hc ⟨s1, s5⟩ p room
  unfold encPlan at h1 h2
  unfold encQ at h1 h2
  refine Ev.succ (fun N => S_build_Build_13_eq N _ _ _ _ _ _ _ _ _ _ _ _ _ _ _ _ _ _ _ _ _ _ _ _) (Ev.bind h1 (Ev.cond_t rfl (Ev.cond_f rfl (Ev.succ (fun N => S_build_Build_16_eq N _ _ _ _ _ _ _ _ _ _ _ _ _ _ _ _ _ _ _ _ _ _ _ _ _ _ _ _ _ _ _ _ _ _ _ _ _ _ _) (Ev.bind h2 ?_)))))
  unfold numErr
  by_cases hn : p < 1 ∨ 3 < p ∨ room < 1 ∨ 8 < room
  · rw [if_pos hn, if_pos hn]
    exact Ev.cond_t rfl (Ev.cond_t rfl (Ev.some _))
  · rw [if_neg hn, if_neg hn]
    obtain ⟨b6, _, _, bc, _, _⟩ := small_lists q.sources.length s5 p.toNat (by omega) q.byKey q.join (q.late == 2)
    have main := build_23 (q := q) (input := input) (room := room) s1 (by omega) (by omega) (by omega) z1 z2 z3 z4 z5 z6 z7 (l6 q.sources.length p.toNat q.byKey q.join (q.late == 2)) (kc4 q.sources.length p.toNat q.byKey q.join (q.late == 2)) b6 bc (ops_ok hi s5 (by omega) hlen _ _ _) _ 0 (Nat.zero_add _)
    rw [machine_eq q input p.toNat room _ _ rfl rfl] at main
    have ca := slices_Clone_api_NodeN_Ev (c := encNodes q.arg) (by rw [encNodes_len]) hq.arg
    have cs := slices_Clone_int_int_Ev (c := ints q.sources) (by rw [ints_len, Nat.mul_one]) hq.sources
    have cw := slices_Clone_api_NodeN_Ev (c := encNodes q.where_) (by rw [encNodes_len]) hq.where_
    exact Ev.cond_t rfl (Ev.cond_f rfl (Ev.succ (fun N => S_build_Build_19_eq N _ _ _ _ _ _ _ _ _ _ _ _ _ _ _ _ _ _ _ _ _ _ _ _ _ _) (Ev.bind ca (Ev.cond_t rfl (Ev.bind cw (Ev.cond_t rfl (Ev.bind cs (Ev.cond_t rfl main))))))))

theorem build_7 (hq : QOk q) (hc : (checkRes q).2 = 0) (hlen : input.length = q.sources.length) (hb : input.length ≤ 1000000) (p : Int) (z1 : Int) (z2 : Bool) (z3 z4 z5 : Int) (z6 : Bool) (z7 : Int) : ∀ k j : Nat, j + k = input.length → (∀ i, i < j → itemsErr (inp input i) = 0) →
    Ev (fun N => S_build_Build_7 N p room input.length (encInput input) input.length (j : Int) q.agg q.arg.length (encNodes q.arg) q.sources.length (ints q.sources) q.join q.where_.length (encNodes q.where_) q.win.kind q.win.size q.win.every q.byKey q.late input.length (encInput input) z1 z2 z3 z4 z5 z6 z7) (buildRes q input p.toNat room (if inErr (input.drop j) ≠ 0 then inErr (input.drop j) else numErr p room))
  | 0, j, hj, hbef => by
    have e : input.drop j = [] := List.drop_eq_nil_of_le (by omega)
    have hi : inErr input = 0 := by
      have key : ∀ (m : Nat), m ≤ input.length → inErr (input.drop (input.length - m)) = 0 := by
        intro m
        induction m with
        | zero => intro _; rw [List.drop_eq_nil_of_le (by omega)]; rfl
        | succ m ihm =>
          intro hm
          rw [inErr_drop (by omega), if_neg (fun h => h (hbef _ (by omega)))]
          have := ihm (by omega)
          rwa [show input.length - (m + 1) + 1 = input.length - m from by omega]
      have := key input.length (Nat.le_refl _)
      rwa [Nat.sub_self, List.drop_zero] at this
    rw [e, if_neg (by simp [inErr])]
    exact Ev.succ (fun N => S_build_Build_7_eq N _ _ _ _ _ _ _ _ _ _ _ _ _ _ _ _ _ _ _ _ _ _ _ _ _ _ _ _) (Ev.cond_f (decide_eq_false (by omega)) (build_13 hq hc hlen hi p z1 z2 z3 z4 z5 z6 z7))
  | k + 1, j, hj, hbef => by
    have hj' : j < input.length := by omega
    refine Ev.succ (fun N => S_build_Build_7_eq N _ _ _ _ _ _ _ _ _ _ _ _ _ _ _ _ _ _ _ _ _ _ _ _ _ _ _ _) (Ev.cond_t (decide_eq_true (by omega)) (Ev.succ (fun N => S_build_Build_8_eq N _ _ _ _ _ _ _ _ _ _ _ _ _ _ _ _ _ _ _ _ _ _ _ _ _ _ _ _) ?_))
    simp only [toNat_cast, Nat.mul_one, input_okT hj', input_at hj', slN_sl, slC_sl]
    refine Ev.cond_t (decide_eq_true (by omega)) (Ev.cond_t (decide_eq_true (by omega)) (Ev.cond_t rfl (Ev.bind (late_Check (inp input j)) (Ev.cond_t rfl ?_))))
    simp only [cells_int, cellAt_zero, toI_int, cond_bne]
    rw [inErr_drop hj']
    by_cases h0 : itemsErr (inp input j) = 0
    · have ih := build_7 hq hc hlen hb p z1 z2 z3 z4 z5 z6 z7 k (j + 1) (by omega) (fun i hi => by
        by_cases hij : i = j
        · rw [hij]; exact h0
        · exact hbef i (by omega))
      refine Ev.if_pos h0 (Ev.succ (fun N => S_build_Build_12_eq N _ _ _ _ _ _ _ _ _ _ _ _ _ _ _ _ _ _ _ _ _ _ _ _ _ _ _ _) ?_)
      have e1 : (if itemsErr (inp input j) ≠ 0 then itemsErr (inp input j) else inErr (input.drop (j + 1))) = inErr (input.drop (j + 1)) := if_neg (fun h => h h0)
      rw [e1, W_succ' hb hj']
      exact ih
    · refine Ev.if_neg h0 ?_
      have e1 : (if itemsErr (inp input j) ≠ 0 then itemsErr (inp input j) else inErr (input.drop (j + 1))) = itemsErr (inp input j) := if_pos h0
      rw [e1, if_pos h0]
      unfold buildRes
      rw [if_pos h0]
      exact Ev.some _

theorem build_Build (hq : QOk q) (hb : input.length ≤ 1000000) (p : Int) :
    Ev (fun N => call cc N n_build_Build [.agg (encQ q), .sl input.length (encInput input), .int .i64 p, .int .i64 room]) (buildRes q input p.toNat room (askErr q input p room)) := by
  have hc := checks_Check hq
  unfold encQ at hc ⊢
  refine Ev.succ (fun N => F_build_Build N _ _ _ _ _ _ _ _ _ _ _ _ _ _ _ _ _) (Ev.bind hc (Ev.cond_t (by simp) ?_))
  simp only [cs_tup, cellAt_succ, cellAt_zero, cells_int, toI_int, cond_bne]
  unfold askErr
  by_cases h : (checkRes q).2 = 0
  · refine Ev.if_pos h (Ev.succ (fun N => S_build_Build_4_eq N _ _ _ _ _ _ _ _ _ _ _ _ _ _ _ _ _ _ _ _ _ _ _ _) ?_)
    rw [if_neg (fun h' => h' h)]
    simp only [cond_bne]
    by_cases h2 : input.length = q.sources.length
    · refine Ev.if_pos (by omega) (Ev.succ (fun N => S_build_Build_6_eq N _ _ _ _ _ _ _ _ _ _ _ _ _ _ _ _ _ _ _ _ _ _ _ _) ?_)
      rw [if_neg (fun h' => h' h2)]
      exact build_7 hq h h2 hb p 0 false 0 0 0 false 0 input.length 0 (by omega) (fun i hi => absurd hi (Nat.not_lt_zero i))
    · refine Ev.if_neg (by omega) ?_
      rw [if_pos h2]
      exact Ev.some _
  · refine Ev.if_neg h ?_
    rw [if_pos h]
    unfold buildRes
    rw [if_pos h]
    exact Ev.some _

/-! The law. -/
def greatI (input : List (List Item)) : Bool := decide (6 < input.length) || input.any fun l => decide (70 < l.length)
theorem great_loop (hb : input.length ≤ 1000000) : ∀ k i : Nat, i + k = input.length → Ev (fun N => S_ref36_Great_4 N input.length (encInput input) (i : Int)) (.bool ((input.drop i).any fun l => decide (70 < l.length)))
  | 0, i, hi => by
    rw [List.drop_eq_nil_of_le (by omega)]
    exact Ev.succ (fun N => S_ref36_Great_4_eq N _ _ _) (Ev.cond_f (decide_eq_false (by omega)) (Ev.some _))
  | k + 1, i, hi => by
    have hi' : i < input.length := by omega
    have ih := great_loop hb k (i + 1) (by omega)
    have e : (input.drop i).any (fun l => decide (70 < l.length)) = (decide (70 < (inp input i).length) || (input.drop (i + 1)).any fun l => decide (70 < l.length)) := by
      rw [List.drop_eq_getElem_cons hi', List.any_cons]
      unfold inp
      rw [List.getElem?_eq_getElem hi']
      rfl
    rw [e]
    refine Ev.succ (fun N => S_ref36_Great_4_eq N _ _ _) ?_
    simp only [toNat_cast, Nat.mul_one, input_okT hi', input_at hi', slN_sl]
    refine Ev.cond_t (decide_eq_true (by omega)) (Ev.cond_t (decide_eq_true (by omega)) (Ev.cond_t (decide_eq_true (by omega)) (Ev.cond_t rfl ?_)))
    by_cases h : 70 < (inp input i).length
    · rw [decide_eq_true h]
      exact Ev.cond_t (decide_eq_true (by omega)) (Ev.some _)
    · rw [decide_eq_false h, Bool.false_or]
      refine Ev.cond_f (decide_eq_false (by omega)) ?_
      rw [W_succ' hb hi']
      exact ih
theorem ref36_Great (hb : input.length ≤ 1000000) : Ev (fun N => call cc N n_ref36_Great [.agg (encQ q), .sl input.length (encInput input)]) (.bool (greatQ q || greatI input)) := by
  have h1 : Ev (fun N => call cc N n_ref08_Great [.agg (encQ q)]) (.bool (greatQ q)) := Ev.of 2 (ref08_Great q)
  unfold encQ at h1 ⊢
  refine Ev.succ (fun N => F_ref36_Great N _ _ _ _ _ _ _ _ _ _ _ _ _ _ _) (Ev.bind h1 (Ev.cond_t rfl ?_))
  cases greatQ q with
  | true => exact Ev.cond_t rfl (Ev.some _)
  | false =>
    refine Ev.cond_f rfl ?_
    rw [Bool.false_or]
    unfold greatI
    by_cases h : 6 < input.length
    · rw [decide_eq_true h]
      exact Ev.cond_t (decide_eq_true (by omega)) (Ev.some _)
    · rw [decide_eq_false h, Bool.false_or]
      exact Ev.cond_f (decide_eq_false (by omega)) (great_loop hb input.length 0 (by omega))

theorem same_zero : Ev (fun N => call cc N n_ref36_Same [.agg zeroM, .agg zeroM]) (.bool true) :=
  ref36_Same_same (q := q0) (o := (0, [])) (c := (0, [])) (ts := []) (room := 0) (m := 0) rfl (RowsOk.nil _ _ _) (RowsOk.nil _ _ _) (by simp) (fun t h => by cases h) (by omega)
theorem same_machine (hg : greatQ q = false) (hgi : greatI input = false) (hs : q.sources.length < 5) {p : Nat} (hp : p < 4) : Ev (fun N => call cc N n_ref36_Same [.agg (machine q input p room), .agg (machine q input p room)]) (.bool true) := by
  obtain ⟨b6, _, _, bc, _, _⟩ := small_lists q.sources.length hs p hp q.byKey q.join (q.late == 2)
  unfold machine
  refine ref36_Same_same hg ⟨by omega, fun i hi => op_okT hi⟩ ⟨by omega, fun i hi => ch_okT hi⟩ (by rw [List.length_map]; omega) (fun t ht => ?_) (by omega)
  obtain ⟨p', _, rfl⟩ := List.mem_map.1 ht
  refine taskOf_ok (by omega) (fun i => ?_) p'
  unfold greatI at hgi
  simp only [Bool.or_eq_false_iff, List.any_eq_false, decide_eq_true_eq] at hgi
  unfold inp
  rcases Nat.lt_or_ge i input.length with hlt | hge
  · rw [List.getElem?_eq_getElem hlt]
    have := hgi.2 _ (List.getElem_mem hlt)
    show (input[i]).length ≤ 1000
    omega
  · rw [List.getElem?_eq_none hge]
    simp

theorem law_small (hq : QOk q) (hb : input.length ≤ 1000000) (p : Int) : Ev (fun N => call cc N n_law36_BuildMakes [.agg (encQ q), .sl input.length (encInput input), .int .i64 p, .int .i64 room]) (.bool true) := by
  have h1 := ref36_Great (q := q) hb
  have h2 := build_Build (q := q) (room := room) hq hb p
  cases hgq : greatQ q || greatI input with
  | true =>
    rw [hgq] at h1
    unfold encQ at h1 ⊢
    exact Ev.succ (fun N => F_law36_BuildMakes N _ _ _ _ _ _ _ _ _ _ _ _ _ _ _ _ _) (Ev.bind h1 (Ev.cond_t rfl (Ev.cond_t rfl (Ev.some _))))
  | false =>
    rw [hgq] at h1
    obtain ⟨hg, hgi⟩ := Bool.or_eq_false_iff.1 hgq
    have h3 := ref36_Build (room := room) hq hg hb p
    unfold buildRes at h2 h3
    by_cases he : askErr q input p room = 0
    · rw [if_neg (fun h => h he)] at h2 h3
      have hp := askErr_num he
      have hc : (checkRes q).2 = 0 := by
        by_cases h : (checkRes q).2 = 0
        · exact h
        · unfold askErr at he; rw [if_pos h] at he; exact absurd he h
      have h4 := same_machine (room := room) hg hgi (sources_of hc).2 (p := p.toNat) (by omega)
      simp only [machine, encM, slv, encQ, List.cons_append, List.nil_append] at h1 h2 h3 h4 ⊢
      exact Ev.succ (fun N => F_law36_BuildMakes N _ _ _ _ _ _ _ _ _ _ _ _ _ _ _ _ _) (Ev.bind h1 (Ev.cond_t rfl (Ev.cond_f rfl (Ev.bind h2 (Ev.cond_t rfl (Ev.bind h3 (Ev.cond_t rfl (Ev.bind h4 (Ev.cond_t rfl (Ev.cond_t rfl (Ev.cond_t rfl (Ev.some _))))))))))))
    · rw [if_pos he] at h2 h3
      have h4 := same_zero
      unfold encQ at h1 h2 h3 ⊢
      refine Ev.succ (fun N => F_law36_BuildMakes N _ _ _ _ _ _ _ _ _ _ _ _ _ _ _ _ _) (Ev.bind h1 (Ev.cond_t rfl (Ev.cond_f rfl (Ev.bind h2 (Ev.cond_t rfl (Ev.bind h3 (Ev.cond_t rfl (Ev.bind h4 (Ev.cond_t rfl (Ev.cond_t rfl (Ev.cond_t ?_ (Ev.some _))))))))))))
      exact beq_self_eq_true _

/-- For every query, input and numbers. -/
theorem law (q : Query) (input : List (List Item)) (p room : Int) : Ev (fun N => call cc N n_law36_BuildMakes [.agg (encQ q), .sl input.length (encInput input), .int .i64 p, .int .i64 room]) (.bool true) := by
  have big : Ev (fun N => call cc N n_ref36_Great [.agg (encQ q), .sl input.length (encInput input)]) (.bool true) → Ev (fun N => call cc N n_law36_BuildMakes [.agg (encQ q), .sl input.length (encInput input), .int .i64 p, .int .i64 room]) (.bool true) := by
    intro h1
    unfold encQ at h1 ⊢
    exact Ev.succ (fun N => F_law36_BuildMakes N _ _ _ _ _ _ _ _ _ _ _ _ _ _ _ _ _) (Ev.bind h1 (Ev.cond_t rfl (Ev.cond_t rfl (Ev.some _))))
  have h0 : Ev (fun N => call cc N n_ref08_Great [.agg (encQ q)]) (.bool (greatQ q)) := Ev.of 2 (ref08_Great q)
  cases hg : greatQ q with
  | true =>
    rw [hg] at h0
    apply big
    unfold encQ at h0 ⊢
    exact Ev.succ (fun N => F_ref36_Great N _ _ _ _ _ _ _ _ _ _ _ _ _ _ _) (Ev.bind h0 (Ev.cond_t rfl (Ev.cond_t rfl (Ev.some _))))
  | false =>
    by_cases h6 : 6 < input.length
    · rw [hg] at h0
      apply big
      unfold encQ at h0 ⊢
      exact Ev.succ (fun N => F_ref36_Great N _ _ _ _ _ _ _ _ _ _ _ _ _ _ _) (Ev.bind h0 (Ev.cond_t rfl (Ev.cond_f rfl (Ev.cond_t (decide_eq_true (by omega)) (Ev.some _)))))
    · obtain ⟨k1, k2, k3⟩ := not_great hg
      exact law_small ⟨by omega, by omega, by omega⟩ (by omega) p
end
end Go.Pv
