/- The law BuildMakes answers true for every query, every input and every numbers, and its arguments read as they read before: no condition. Part 7 of 7. -/
import Derived.Deep.Slices
import Derived.ChangeArms
import Derived.OpenShut
import Derived.WideKeyArgs
import Derived.ChangeSame
import Derived.JoinedOf
import Derived.WalkKit
import Derived.Maps.OwnSet
import Derived.SliceStrings
import Derived.Test.YtdelcbejcdpmiaaGreatRows
import Derived.Test.YtdelcbejcdpmiaaGreatCm6
/- What a call is handed, as data. -/
namespace Go.Pv
open Go Go.RowKit Go.ChangeShapes Go.Deep

/-- All cells of a world. -/
def cellsF (W : World) : Fz := fun b o =>
  match W.cell? ⟨b, o, none⟩ with
  | some u => if u.oneCell' = true then some u else none
  | none => none

theorem add_add (a : Addr) (i j : Nat) : (a.add i).add j = a.add (i + j) := by
  unfold Addr.add
  by_cases hi : i = 0
  · subst hi; simp
  · by_cases hj : j = 0
    · subst hj; simp
    · have : i + j ≠ 0 := by omega
      simp [hi, hj, this, Nat.add_assoc]
theorem cellsF_some {W : World} {b o : Nat} {u : Value} (h : cellsF W b o = some u) : W.cell? ⟨b, o, none⟩ = some u ∧ u.oneCell' = true := by
  unfold cellsF at h
  cases hc : W.cell? ⟨b, o, none⟩ with
  | none => simp [hc] at h
  | some v =>
    simp only [hc] at h
    split at h
    · obtain rfl := Option.some.inj h
      exact ⟨rfl, by assumption⟩
    · cases h
theorem cellsF_mk {W : World} {b o : Nat} {u : Value} (h : W.cell? ⟨b, o, none⟩ = some u) (h1 : u.oneCell' = true) : cellsF W b o = some u := by
  unfold cellsF; simp [h, h1]

/-- Data of a type, cell by cell. -/
def hasT (P : Program) : Nat → TypeId → List V → Prop
  | 0, _, _ => False
  | d + 1, t, xs =>
    match P.underlying t with
    | some .bool => ∃ b, xs = [.bool b]
    | some (.int k) => ∃ n, xs = [.int k n]
    | some .string => ∃ s, xs = [.str s]
    | some (.slice e) => ∃ elems : List (List V), xs = [.sl elems.length elems.flatten] ∧ ∀ y ∈ elems, hasT P d e y
    | some (.struct fs) => ∃ parts : List (List V), parts.length = fs.size ∧ xs = parts.flatten ∧ ∀ (i : Nat) (f : Field) (y : List V), fs[i]? = some f → parts[i]? = some y → hasT P d f.type y
    | some (.array n e) => ∃ parts : List (List V), parts.length = n ∧ xs = parts.flatten ∧ ∀ y ∈ parts, hasT P d e y
    | _ => False

def offs (P : Program) : List Field → Nat → Option Nat
  | [], o => some o
  | f :: fs, o => if f.offset = o then offs P fs (o + P.cellsOf f.type) else none

/-- Types whose data is told. -/
def plainT (P : Program) : Nat → TypeId → Bool
  | 0, _ => false
  | d + 1, t =>
    match P.underlying t with
    | some .bool => true
    | some (.int _) => true
    | some .string => true
    | some (.slice e) => decide (0 < P.cellsOf e) && plainT P d e
    | some (.struct fs) => (offs P fs.toList 0 == some (P.cellsOf t)) && fs.toList.all fun f => plainT P d f.type
    | some (.array n e) => (P.cellsOf t == n * P.cellsOf e) && plainT P d e
    | _ => false

def RepL (W : World) (cs : List Value) (xs : List V) : Prop :=
  xs.length = cs.length ∧ ∀ (j : Nat) (u : Value) (y : V), cs[j]? = some u → xs[j]? = some y → RepD (cellsF W) u y ∧ u.oneCell' = true

theorem RepL.one {W : World} {u : Value} {y : V} (h : RepD (cellsF W) u y) (h1 : u.oneCell' = true) : RepL W [u] [y] := by
  refine ⟨rfl, fun j u' y' hj hy => ?_⟩
  cases j with
  | zero =>
    simp only [List.getElem?_cons_zero, Option.some.injEq] at hj hy
    subst hj hy
    exact ⟨h, h1⟩
  | succ j => simp at hj
theorem RepL.append {W : World} {cs cs' : List Value} {xs xs' : List V} (h : RepL W cs xs) (h' : RepL W cs' xs') : RepL W (cs ++ cs') (xs ++ xs') := by
  refine ⟨by simp [h.1, h'.1], fun j u y hj hy => ?_⟩
  rcases Nat.lt_or_ge j cs.length with hlt | hge
  · rw [List.getElem?_append_left hlt] at hj
    rw [List.getElem?_append_left (by rw [h.1]; exact hlt)] at hy
    exact h.2 j u y hj hy
  · rw [List.getElem?_append_right hge] at hj
    rw [List.getElem?_append_right (by rw [h.1]; exact hge), h.1] at hy
    exact h'.2 _ u y hj hy

theorem flat_get {es : Nat} (hes : 0 < es) : ∀ (l : List (List V)), (∀ y ∈ l, y.length = es) → ∀ j : Nat, l.flatten[j]? = (l[j / es]?).bind (·[j % es]?)
  | [], _, j => by simp
  | x :: l, h, j => by
    have hx := h x (List.mem_cons_self ..)
    rw [List.flatten_cons]
    rcases Nat.lt_or_ge j es with hlt | hge
    · rw [List.getElem?_append_left (by omega), Nat.div_eq_of_lt hlt, Nat.mod_eq_of_lt hlt]
      rfl
    · rw [List.getElem?_append_right (by omega), hx, flat_get hes l (fun y hy => h y (List.mem_cons_of_mem _ hy)) (j - es)]
      have e1 : j / es = (j - es) / es + 1 := by
        have := Nat.div_eq_sub_div hes hge
        omega
      have e2 : j % es = (j - es) % es := by rw [Nat.mod_eq_sub_mod hge]
      rw [e1, e2]
      rfl

section
variable {H : Type} {enc : TypeId × Value → H} {P : Program} {W : World} {base : Nat} {spare : Nat → Bool} {held : Bool}

/-- The fields of a struct, one behind the other. -/
theorem open_fields {d n : Nat} (IH : ∀ t, plainT P d t = true → ∀ (cs : List Value) (x : DataW H × List MemPlace), DataW.trod enc P W base spare held n t cs = some x → ∃ xs, RepL W cs xs ∧ hasT P d t xs) (cs : List Value) :
    ∀ (fs : List Field) (o z : Nat), offs P fs o = some z → z ≤ cs.length → (∀ f ∈ fs, plainT P d f.type = true) →
      (∀ f ∈ fs, ∃ x, DataW.trod enc P W base spare held n f.type ((cs.drop f.offset).take (P.cellsOf f.type)) = some x) →
      ∃ parts : List (List V), parts.length = fs.length ∧ RepL W ((cs.drop o).take (z - o)) parts.flatten ∧ (∀ (i : Nat) (f : Field) (y : List V), fs[i]? = some f → parts[i]? = some y → hasT P d f.type y) ∧ o ≤ z
  | [], o, z, ho, hz, _, _ => by
    simp only [offs, Option.some.injEq] at ho
    subst ho
    exact ⟨[], rfl, ⟨by simp, fun j u y hj => by simp at hj⟩, fun i f y hf => by simp at hf, Nat.le_refl _⟩
  | f :: fs, o, z, ho, hz, hp, ht => by
    unfold offs at ho
    split at ho
    case isFalse => cases ho
    rename_i hfo
    obtain ⟨x, hx⟩ := ht f (List.mem_cons_self ..)
    obtain ⟨xs, hr, hT⟩ := IH f.type (hp f (List.mem_cons_self ..)) _ x hx
    obtain ⟨parts, h1, h2, h3, h4⟩ := open_fields IH cs fs _ z ho hz (fun g hg => hp g (List.mem_cons_of_mem _ hg)) (fun g hg => ht g (List.mem_cons_of_mem _ hg))
    refine ⟨xs :: parts, by simp [h1], ?_, ?_, by omega⟩
    · rw [List.flatten_cons]
      have e : (cs.drop o).take (z - o) = (cs.drop f.offset).take (P.cellsOf f.type) ++ (cs.drop (o + P.cellsOf f.type)).take (z - (o + P.cellsOf f.type)) := by
        rw [hfo]
        have := List.take_append_drop (P.cellsOf f.type) ((cs.drop o).take (z - o))
        rw [← this, List.take_take, List.drop_take, List.drop_drop]
        congr 1
        · congr 1; omega
        · congr 1; omega
      rw [e]
      exact hr.append h2
    · intro i g y hg hy
      cases i with
      | zero =>
        simp only [List.getElem?_cons_zero, Option.some.injEq] at hg hy
        subst hg hy
        exact hT
      | succ i => exact h3 i g y (by simpa using hg) (by simpa using hy)

theorem trod_bool {fuel : Nat} {t : TypeId} {cs : List Value} {x : DataW H × List MemPlace} (ht : P.underlying t = some .bool) (hx : DataW.trod enc P W base spare held fuel t cs = some x) : ∃ b, cs = [.bool b] := by
  cases fuel with
  | zero => simp [DataW.trod] at hx
  | succ n =>
    unfold DataW.trod at hx
    rw [ht] at hx
    split at hx <;> first | exact ⟨_, rfl⟩ | simp_all
theorem trod_int {fuel : Nat} {t : TypeId} {k : IntKind} {cs : List Value} {x : DataW H × List MemPlace} (ht : P.underlying t = some (.int k)) (hx : DataW.trod enc P W base spare held fuel t cs = some x) : ∃ n, cs = [.int k n] := by
  cases fuel with
  | zero => simp [DataW.trod] at hx
  | succ n =>
    unfold DataW.trod at hx
    rw [ht] at hx
    split at hx <;> simp_all
theorem trod_string {fuel : Nat} {t : TypeId} {cs : List Value} {x : DataW H × List MemPlace} (ht : P.underlying t = some .string) (hx : DataW.trod enc P W base spare held fuel t cs = some x) : ∃ s, cs = [.string s] := by
  cases fuel with
  | zero => simp [DataW.trod] at hx
  | succ n =>
    unfold DataW.trod at hx
    rw [ht] at hx
    split at hx <;> first | exact ⟨_, rfl⟩ | simp_all

/-- The elements of an array, one behind the other. -/
theorem open_elems {d n m c : Nat} {e : TypeId} (IH : ∀ (cs : List Value) (x : DataW H × List MemPlace), DataW.trod enc P W base spare held n e cs = some x → ∃ xs, RepL W cs xs ∧ hasT P d e xs) (cs : List Value)
    (ht : ∀ i, i < m → ∃ x, DataW.trod enc P W base spare held n e ((cs.drop (i * c)).take c) = some x) :
    ∀ k i : Nat, i + k = m → ∃ parts : List (List V), parts.length = k ∧ RepL W ((cs.drop (i * c)).take (k * c)) parts.flatten ∧ ∀ y ∈ parts, hasT P d e y
  | 0, i, _ => ⟨[], rfl, ⟨by simp, fun j u y hj => by simp at hj⟩, fun y hy => by cases hy⟩
  | k + 1, i, hi => by
    obtain ⟨x, hx⟩ := ht i (by omega)
    obtain ⟨xs, hr, hT⟩ := IH _ x hx
    obtain ⟨parts, h1, h2, h3⟩ := open_elems IH cs ht k (i + 1) (by omega)
    refine ⟨xs :: parts, by simp [h1], ?_, fun y hy => ?_⟩
    · rw [List.flatten_cons]
      have e : (cs.drop (i * c)).take ((k + 1) * c) = (cs.drop (i * c)).take c ++ (cs.drop ((i + 1) * c)).take (k * c) := by
        have := List.take_append_drop c ((cs.drop (i * c)).take ((k + 1) * c))
        rw [← this, List.take_take, List.drop_take, List.drop_drop]
        congr 1
        · congr 1; rw [Nat.add_mul]; omega
        · congr 1
          · rw [Nat.add_mul]; omega
          · congr 1; rw [Nat.add_mul]; omega
      rw [e]
      exact hr.append h2
    · rcases List.mem_cons.1 hy with rfl | hy
      · exact hT
      · exact h3 y hy

theorem open_T : ∀ (d : Nat) (t : TypeId), plainT P d t = true → ∀ (fuel : Nat) (cs : List Value) (x : DataW H × List MemPlace), DataW.trod enc P W base spare held fuel t cs = some x → ∃ xs, RepL W cs xs ∧ hasT P d t xs
  | 0, t, h => by simp [plainT] at h
  | d + 1, t, h => by
    intro fuel cs x hx
    unfold plainT at h
    unfold hasT
    cases ht : P.underlying t with
    | none => simp [ht] at h
    | some dsc =>
      simp only [ht] at h ⊢
      cases dsc with
      | bool =>
        obtain ⟨b, rfl⟩ := trod_bool ht hx
        exact ⟨_, RepL.one (.bool b) rfl, b, rfl⟩
      | int k =>
        obtain ⟨n, rfl⟩ := trod_int ht hx
        exact ⟨_, RepL.one (.int k n) rfl, n, rfl⟩
      | string =>
        obtain ⟨s, rfl⟩ := trod_string ht hx
        exact ⟨_, RepL.one (by have := RepD.str (F := cellsF W) s.data.toList; simpa using this) rfl, s.data.toList, rfl⟩
      | slice e =>
        simp only [Bool.and_eq_true, decide_eq_true_eq] at h
        obtain ⟨hes, hpe⟩ := h
        rcases open_slice ht hx with ⟨rfl, rfl⟩ | ⟨a, len, cap, m, n, D, Pl, rfl, hb, hl, hmx, hmm, rfl, hel⟩
        · exact ⟨[.sl 0 []], RepL.one (.sl0 none 0) rfl, [], rfl, fun y hy => by cases hy⟩
        · have hlm : len ≤ m := by rw [hmm]; split <;> omega
          have each : ∀ i, i < len → ∃ ys : List V, ∃ cs' : List Value, W.cells? base (a.add (i * P.cellsOf e)) (P.cellsOf e) = some cs' ∧ RepL W cs' ys ∧ hasT P d e ys := by
            intro i hi
            obtain ⟨cs', h1, h2⟩ := hel i (by omega)
            obtain ⟨ys, h3, h4⟩ := open_T d e hpe n cs' _ h2
            exact ⟨ys, cs', h1, h3, h4⟩
          obtain ⟨Y, hY⟩ := choose_lt (α := List V) each
          have hlen : ∀ y ∈ (List.range len).map Y, y.length = P.cellsOf e := by
            intro y hy
            obtain ⟨i, hi, rfl⟩ := List.mem_map.1 hy
            obtain ⟨cs', h1, h2, _⟩ := hY i (List.mem_range.1 hi)
            rw [h2.1, (World.cells?_some h1).2.1]
          have hcell : ∀ (j : Nat) (y : V), ((List.range len).map Y).flatten[j]? = some y → ∃ u, W.cell? (a.add j) = some u ∧ RepD (cellsF W) u y ∧ u.oneCell' = true := by
            intro j y hj
            rw [flat_get hes _ hlen] at hj
            obtain ⟨ys, h1, h2⟩ := Option.bind_eq_some_iff.1 hj
            rw [List.getElem?_map] at h1
            obtain ⟨i, h3, h4⟩ := Option.map_eq_some_iff.1 h1
            have hji : j / P.cellsOf e < len := by
              rcases Nat.lt_or_ge (j / P.cellsOf e) len with h' | h'
              · exact h'
              · rw [List.getElem?_eq_none (by simpa using h')] at h3; cases h3
            rw [List.getElem?_range hji] at h3
            obtain rfl := Option.some.inj h3
            subst h4
            obtain ⟨cs', k1, k2, _⟩ := hY _ hji
            obtain ⟨_, k3, k4⟩ := World.cells?_some k1
            have hmod := Nat.mod_lt j hes
            have hadd : (a.add (j / P.cellsOf e * P.cellsOf e)).add (j % P.cellsOf e) = a.add j := by
              have := Nat.div_add_mod j (P.cellsOf e)
              rw [Nat.mul_comm] at this
              rw [add_add, this]
            have k5 := k4 _ hmod
            rw [hadd] at k5
            have hlt : j % P.cellsOf e < cs'.length := by omega
            rw [List.getElem?_eq_getElem hlt] at k5
            obtain ⟨r1, r2⟩ := k2.2 _ _ _ (List.getElem?_eq_getElem hlt) h2
            exact ⟨_, k5, r1, r2⟩
          refine ⟨[.sl len ((List.range len).map Y).flatten], RepL.one ?_ rfl, (List.range len).map Y, by simp, fun y hy => ?_⟩
          · by_cases h0 : len = 0
            · subst h0
              exact .sl0 _ _
            · obtain ⟨b, o, sp⟩ := a
              have hsp : sp = none := by
                have hl0 : 0 < len := by omega
                obtain ⟨cs', k1, k2, _⟩ := hY 0 hl0
                obtain ⟨_, k3, k4⟩ := World.cells?_some k1
                have k5 := k4 0 hes
                have hlt : 0 < cs'.length := by omega
                rw [List.getElem?_eq_getElem hlt] at k5
                have := World.cell?_spot k5
                simpa [Addr.add] using this
              subst hsp
              refine .sl b o len cap _ hl (fun j c hj => ?_) (fun j c u hj hu => ?_)
              · obtain ⟨u, h1, _, h3⟩ := hcell j c hj
                rw [cellsF_mk (by rw [← Go.WideShapes.add_plain]; exact h1) h3]; rfl
              · obtain ⟨u', h1, h2, h3⟩ := hcell j c hj
                rw [cellsF_mk (by rw [← Go.WideShapes.add_plain]; exact h1) h3] at hu
                obtain rfl := Option.some.inj hu
                exact h2
          · obtain ⟨i, hi, rfl⟩ := List.mem_map.1 hy
            exact (hY i (List.mem_range.1 hi)).choose_spec.2.2
      | struct fs =>
        simp only [Bool.and_eq_true, beq_iff_eq, List.all_eq_true] at h
        obtain ⟨zs, n, _, _, hlen, hxl, hf⟩ := DataW.trod_struct ht hx
        obtain ⟨parts, h1, h2, h3, _⟩ := open_fields (d := d) (n := n) (fun t hp cs x hx => open_T d t hp n cs x hx) cs fs.toList 0 _ h.1 (Nat.le_of_eq hlen.symm) h.2 (fun f hfm => by
          obtain ⟨i, hi, hi'⟩ := List.mem_iff_getElem.1 hfm
          have hfi : fs[i]? = some f := by rw [← Array.getElem?_toList, List.getElem?_eq_getElem hi, hi']
          have := hf i f hfi
          have hlt : i < zs.length := by rw [hxl]; simpa using hi
          rw [List.getElem?_eq_getElem hlt] at this
          exact ⟨_, this⟩)
        refine ⟨parts.flatten, ?_, parts, by simpa using h1, rfl, fun i f y hi hy => h3 i f y (by rw [Array.getElem?_toList]; exact hi) hy⟩
        have e : (cs.drop 0).take (P.cellsOf t - 0) = cs := by rw [List.drop_zero, Nat.sub_zero, ← hlen, List.take_length]
        rwa [e] at h2
      | array m e =>
        simp only [Bool.and_eq_true, beq_iff_eq] at h
        obtain ⟨zs, n, _, _, hlen, hxl, hf⟩ := DataW.trod_array ht hx
        obtain ⟨parts, h1, h2, h3⟩ := open_elems (d := d) (n := n) (m := m) (c := P.cellsOf e) (fun cs x hx => open_T d e h.2 n cs x hx) cs (fun i hi => by
          have := hf i hi
          rw [List.getElem?_eq_getElem (by omega)] at this
          exact ⟨_, this⟩) m 0 (by omega)
        refine ⟨parts.flatten, ?_, parts, h1, rfl, h3⟩
        have e1 : (cs.drop (0 * P.cellsOf e)).take (m * P.cellsOf e) = cs := by rw [Nat.zero_mul, List.drop_zero, ← h.1, ← hlen, List.take_length]
        rwa [e1] at h2
      | _ => simp at h
end
end Go.Pv

/- From what the evaluator answers to what a law says. -/
namespace Go.Pv
open Go Go.RowKit Go.ChangeShapes Go.WideShapes

section
variable {H : Type} {enc : TypeId × Value → H} {P : Program}

theorem ok_cells {W : World} {r : Reach} {base : Nat} {t : TypeId} {v : Value} (h : Value.okWide P W r base t v) (ha : isAggT P t = false) : v.cells = #[v] := by
  cases v with
  | agg cs =>
    exfalso
    unfold isAggT at ha
    unfold Value.okWide at h
    cases ht : P.underlying t with
    | none => simp [ht, Cell.okWide, Cell.ok] at h
    | some d =>
      rw [ht] at ha h
      cases d <;> simp [Cell.okWide, Cell.ok, ht] at h ha
  | _ => rfl
theorem ok_agg {W : World} {r : Reach} {base : Nat} {t : TypeId} {v : Value} (h : Value.okWide P W r base t v) (ha : isAggT P t = true) : ∃ cs, v = .agg cs := by
  unfold isAggT at ha
  unfold Value.okWide at h
  cases ht : P.underlying t with
  | none => simp [ht] at ha
  | some d =>
    rw [ht] at ha h
    cases d <;> simp at ha h
    · obtain ⟨cs, rfl, _⟩ := h; exact ⟨cs, rfl⟩
    · obtain ⟨cs, rfl, _⟩ := h; exact ⟨cs, rfl⟩

theorem open_arg {W : World} {r : Reach} {base b0 : Nat} {sp : Nat → Bool} {held : Bool} {t : TypeId} {v : Value} {d : DataW H} {ps : List MemPlace} {k : Nat} (hok : Value.okWide P W r b0 t v) (h : DataW.Trod enc P W base sp held t v d ps) (hp : plainT P k t = true) :
    ∃ xs, RepD (cellsF W) v (mkV (isAggT P t) xs) ∧ hasT P k t xs := by
  obtain ⟨fuel, hf⟩ := h
  obtain ⟨xs, h1, h2⟩ := open_T k t hp fuel _ _ hf
  refine ⟨xs, ?_, h2⟩
  cases ha : isAggT P t with
  | true =>
    obtain ⟨cs, rfl⟩ := ok_agg hok ha
    refine .agg cs xs (by have := h1.1; simp [Value.cells] at this; omega) (fun j x u hx hu => (h1.2 j u x (by simpa [Value.cells] using hu) hx).1)
  | false =>
    have hc := ok_cells hok ha
    rw [hc] at h1
    match xs, h1.1 with
    | [x], _ => exact (h1.2 0 v x rfl rfl).1

theorem open_args {W : World} {r : Reach} {b0 k : Nat} : ∀ (ts : List TypeId) (vs : List Value) (ds : List (DataW H)) (ps : List MemPlace), DataW.TrodAll enc P W 0 (fun _ => true) true ts vs ds ps →
    (∀ (j : Nat) (t : TypeId) (v : Value), ts[j]? = some t → vs[j]? = some v → Value.okWide P W r b0 t v) → (∀ t ∈ ts, plainT P k t = true) →
    ∃ xss : List (List V), xss.length = ts.length ∧ vs.length = ts.length ∧ ds.length = ts.length ∧ (∀ (j : Nat) (t : TypeId) (xs : List V), ts[j]? = some t → xss[j]? = some xs → hasT P k t xs) ∧
      ∀ (j : Nat) (x : V) (u : Value), ((ts.zip xss).map fun p => mkV (isAggT P p.1) p.2)[j]? = some x → vs[j]? = some u → RepD (cellsF W) u x
  | [], vs, ds, ps, h, _, _ => by
    obtain ⟨rfl, rfl, rfl⟩ := trodAll_nil h
    exact ⟨[], rfl, rfl, rfl, fun j t xs hj => by simp at hj, fun j x u hj => by simp at hj⟩
  | t :: ts, vs, ds, ps, h, hok, hp => by
    obtain ⟨v, vs', d, ds', p, q, rfl, rfl, rfl, h1, h2⟩ := trodAll_cons h
    obtain ⟨xs, r1, r2⟩ := open_arg (hok 0 t v rfl rfl) h1 (hp t (List.mem_cons_self ..))
    obtain ⟨xss, k1, k2, k3, k4, k5⟩ := open_args ts vs' ds' q h2 (fun j t' v' ht hv => hok (j + 1) t' v' (by simpa using ht) (by simpa using hv)) (fun t' ht => hp t' (List.mem_cons_of_mem _ ht))
    refine ⟨xs :: xss, by simp [k1], by simp [k2], by simp [k3], fun j t' xs' ht hx => ?_, fun j x u hx hu => ?_⟩
    · cases j with
      | zero =>
        simp only [List.getElem?_cons_zero, Option.some.injEq] at ht hx
        subst ht hx
        exact r2
      | succ j => exact k4 j t' xs' (by simpa using ht) (by simpa using hx)
    · cases j with
      | zero =>
        simp only [List.zip_cons_cons, List.map_cons, List.getElem?_cons_zero, Option.some.injEq] at hx hu
        subst hx hu
        exact r1
      | succ j => exact k5 j x u (by simpa using hx) (by simpa using hu)

theorem trodAll_stays {base : Nat} (hl : laidOutB P = true) {W W' : World} {sp' : Nat → Bool} : ∀ {ts : List TypeId} {vs : List Value} {ds : List (DataW H)} {ps : List MemPlace}, (∀ t ∈ ts, P.readableRec t = true ∧ t < P.types.size) →
    DataW.TrodAll enc P W base (fun _ => true) true ts vs ds ps → (∀ p ∈ ps, W.sameAt W' p) → (∀ p ∈ ps, sp' p.block = true) → DataW.TrodAll enc P W' base sp' true ts vs ds ps
  | [], _, _, _, _, h, _, _ => by
    obtain ⟨rfl, rfl, rfl⟩ := trodAll_nil h
    exact trodAll_mk0
  | t :: ts, _, _, _, ht, h, hs, hp => by
    obtain ⟨v, vs', d, ds', p, q, rfl, rfl, rfl, h1, h2⟩ := trodAll_cons h
    have hr := ht t (List.mem_cons_self ..)
    exact trodAll_cons_mk (Go.WideElems.Trod_stays hl hr.1 hr.2 h1 (fun x hx => hs x (List.mem_append_left _ hx)) (fun x hx => hp x (List.mem_append_left _ hx)))
      (trodAll_stays hl (fun t' h' => ht t' (List.mem_cons_of_mem _ h')) h2 (fun x hx => hs x (List.mem_append_right _ hx)) (fun x hx => hp x (List.mem_append_right _ hx)))

/-- WHAT STANDS BEHIND A CALL THAT TURNS NOTHING THAT WAS THERE. -/
theorem post_of_below {f : Func} {s : ChangeSpec} {apart fresh handsOn again : Bool} {W W' : World} {args : Array Value} {v : Value} {ds gs : List (DataW H)} {before : List MemPlace}
    (hW : DataW.Whole enc P f.params.toList s.vars apart W args.toList ds gs before) (hv : s.vars = []) (hl : laidOutB P = true) (ht : ∀ t ∈ f.params.toList, P.readableRec t = true ∧ t < P.types.size)
    (hs : (s.fn H (ds ++ gs)).args = ds) (hsv : (s.fn H (ds ++ gs)).vars = [])
    (hres : ∀ (b : Nat) (sp : Nat → Bool) (hd : Bool), DataW.TrodAll enc P W' b sp hd f.resultTypes.toList (v.resultList f.resultTypes.size) (s.fn H (ds ++ gs)).results [])
    (hb : Below W.heap.size W W')
    (hok : ∀ (j : Nat) (t : TypeId) (r : Value), f.resultTypes[j]? = some t → (v.resultList f.resultTypes.size)[j]? = some r → Value.okWide P W' .any 0 t r) :
    s.post enc P f apart fresh handsOn again W args v W' := by
  have hold : ∀ p ∈ before, (fun b => decide (b < W.heap.size)) p.block = true := fun p hp => by simpa using hW.lt p hp
  have hlt := hW.lt
  obtain ⟨p, q, hA, hV, rfl, hz, hn⟩ := hW
  have hq : q = [] := by
    rw [hv] at hV
    cases gs with
    | nil => exact hV
    | cons g gs => simp [DataW.TrodVars] at hV
  subst hq
  have hargs : ∀ sp : Nat → Bool, (∀ x ∈ p ++ [], sp x.block = true) → DataW.TrodAll enc P W' 0 sp true f.params.toList args.toList (s.fn H (ds ++ gs)).args p := by
    intro sp hsp
    rw [hs]
    exact trodAll_stays hl ht hA (fun x hx => hb.same (hlt x (by simpa using hx))) (fun x hx => hsp x (by simpa using hx))
  have hvars : ∀ sp : Nat → Bool, (∀ x ∈ p ++ [], sp x.block = true) → DataW.TrodVars enc P W' sp s.vars (s.fn H (ds ++ gs)).vars [] := by
    intro sp _
    rw [hv, hsv]
    rfl
  refine ⟨ds, gs, p ++ [], [], p, [], ⟨p, [], hA, hV, rfl, hz, hn⟩, hres _ _ _, hargs _ hold, hvars _ hold, World.keptBut_mono (fun x hx => ⟨hx, ?_⟩) (hb.frame (· ∈ p ++ [])), fun _ => ?_⟩
  · exact Or.inr (by simpa using hx)
  · refine ⟨hok, _, _, ([] ++ p) ++ [], ⟨[] ++ p, [], trodAll_append (hargs _ (fun _ _ => rfl)) (hres _ _ _), hvars _ (fun _ _ => rfl), rfl, ?_, ?_⟩, ?_⟩
    · intro b off hp
      rw [hb.frozen (p := ⟨b, off, none⟩) (show b < W.heap.size from hlt (.cell b off) (by simpa using hp))]
      exact hz b off (by simpa using hp)
    · intro ha
      have := hn ha
      simpa using this
    · intro x hx _
      simpa using hx

/-- A LAW THAT ANSWERS TRUE ON ALL DATA: what its statement asks of a call. -/
theorem law_contract {c : Cfg} (hc : CfgOk c) {f : Nat} {fn : Func} {k tb : Nat} (hfn : c.P.funcs[f]? = some fn) (hres : fn.resultTypes = #[tb]) (htb : c.P.underlying tb = some .bool) (hmd : c.md f = some .pure) (hl : laidOutB c.P = true)
    (hts : ∀ t ∈ fn.params.toList, plainT c.P k t = true ∧ c.P.readableRec t = true ∧ t < c.P.types.size)
    (hcall : ∀ xss : List (List V), xss.length = fn.params.toList.length → (∀ (j : Nat) (t : TypeId) (xs : List V), fn.params.toList[j]? = some t → xss[j]? = some xs → hasT c.P k t xs) → ∃ n, call c n f ((fn.params.toList.zip xss).map fun p => mkV (isAggT c.P p.1) p.2) = some (.bool true))
    {s : ChangeSpec} (hs : s.vars = []) (hspec : ∀ (ds : List (DataW H)), ds.length = fn.params.toList.length → (s.fn H ds).results = [.lit (.bool true)] ∧ (s.fn H ds).args = ds ∧ (s.fn H ds).vars = [])
    {enc : TypeId × Value → H} {W : World} {base : Nat} {args : Array Value} {ds gs : List (DataW H)} {before : List MemPlace} {apart fresh handsOn again : Bool}
    (hval : ∀ (j : Nat) (t : TypeId) (v : Value), fn.params[j]? = some t → args[j]? = some v → Value.okWide c.P W .any base t v)
    (hW : DataW.Whole enc c.P fn.params.toList s.vars apart W args.toList ds gs before) :
    Calls c.P f args W fun e W' => ∃ v, e = .returned v ∧ s.post enc c.P fn apart fresh handsOn again W args v W' := by
  have hW' := hW
  obtain ⟨p, q, hA, hV, rfl, hz, hn⟩ := hW
  obtain ⟨xss, k1, k2, k3, k4, k5⟩ := open_args (k := k) fn.params.toList args.toList ds p hA (fun j t v ht hv => hval j t v (by rw [← Array.getElem?_toList]; exact ht) (by rw [← Array.getElem?_toList]; exact hv)) (fun t ht => (hts t ht).1)
  obtain ⟨n, hn⟩ := hcall xss k1 k4
  have hargs : Args (cellsF W) W args ((fn.params.toList.zip xss).map fun p => mkV (isAggT c.P p.1) p.2) := by
    refine ⟨fun b o u hu => (cellsF_some hu).1, fun b o u hu => (cellsF_some hu).2, ?_, fun j x u hx hu => k5 j x u hx (by rw [Array.getElem?_toList]; exact hu)⟩
    have e1 : args.size = fn.params.toList.length := by rw [← Array.length_toList]; exact k2
    rw [e1, List.length_map, List.length_zip, k1, Nat.min_self]
  have hgs : gs = [] := by
    rw [hs] at hV
    cases gs with
    | nil => rfl
    | cons g gs => simp [DataW.TrodVars] at hV
  subst hgs
  refine (((call_ok hc n).pure f _ _ hmd hn).2 _ W args hargs).mono fun e W' hp => ?_
  obtain ⟨v, F', he, ho, hr⟩ := hp
  subst he
  cases hr
  obtain ⟨s1, s2, s3⟩ := hspec (ds ++ []) (by simpa using k3)
  refine ⟨_, rfl, post_of_below hW' hs hl (fun t ht => (hts t ht).2) (by rw [s2]; simp) s3 (fun b sp hd => ?_) ho.below (ok_one hres rfl (okWide_bool_mk htb true))⟩
  rw [s1, hres]
  exact trodAll_cons_mk (shut_bool htb true) trodAll_mk0
end
end Go.Pv

/- clauses.distinct: how many different numbers a slice has, by a map. -/
namespace Go.Pv
open Go Go.Proofs Go.RowKit Go.Maps Go.WideMaps

def litI (x : Int) : Lit := .int .i64 x
theorem any_lit (acc : List Int) (x : Int) : (acc.map litI).any (fun y => y.sameKey (litI x)) = acc.any (fun y => y == x) := by
  rw [List.any_map]
  congr 1
  funext y
  simp only [Function.comp_def, litI, Lit.sameKey, true_and]
  by_cases h : y = x <;> simp [h]
theorem fold_addKey : ∀ (l acc : List Int), ((l.map litI).foldl addKey (acc.map litI)).length = acc.length + ((l.filter fun x => !acc.any (fun y => y == x)).eraseDups).length
  | [], acc => by simp
  | a :: l, acc => by
    rw [List.map_cons, List.foldl_cons]
    have hk : addKey (acc.map litI) (litI a) = if acc.any (fun y => y == a) then acc.map litI else (acc ++ [a]).map litI := by
      unfold addKey
      rw [any_lit]
      simp
    rw [hk]
    cases h : acc.any (fun y => y == a) with
    | true =>
      simp only [if_true]
      rw [fold_addKey l acc, List.filter_cons_of_neg (by simp [h])]
    | false =>
      simp only [Bool.false_eq_true, if_false]
      rw [fold_addKey l (acc ++ [a]), List.filter_cons_of_pos (by simp [h]), List.eraseDups_cons, List.length_cons, List.filter_filter, List.length_append]
      have e : (l.filter fun x => !(acc ++ [a]).any (fun y => y == x)) = l.filter (fun x => !x == a && !acc.any (fun y => y == x)) := by
        congr 1
        funext x
        rw [List.any_append, Bool.not_or, Bool.and_comm]
        congr 2
        rw [show [a].any (fun y => y == x) = (a == x) from by simp]
        by_cases hx : x = a
        · subst hx; rfl
        · have h1 : (a == x) = false := beq_eq_false_iff_ne.2 (fun e => hx e.symm)
          have h2 : (x == a) = false := beq_eq_false_iff_ne.2 hx
          rw [h1, h2]
      rw [e]
      have e1 : [a].length = 1 := rfl
      omega
theorem size_distinct (l : List Int) : Maps.size (setOf (H := Unit) (.lit (.bool true)) (l.map litI)) = l.eraseDups.length := by
  rw [size_setOf _ _ (fun x hx => by obtain ⟨y, _, rfl⟩ := List.mem_map.1 hx; trivial)]
  have := fold_addKey l []
  have e : (l.filter fun x => !([] : List Int).any (fun y => y == x)) = l := List.filter_eq_self.2 (fun x _ => rfl)
  rw [e] at this
  simpa using this

def Sn (zs : List Int) (k : Nat) : DataW Unit := setOf (.lit (.bool true)) ((zs.take k).map litI)
theorem Sn_succ (zs : List Int) (k : Nat) (hk : k < zs.length) : Sn zs (k + 1) = (Sn zs k).put (.int .i64 (zs.getD k 0)) (.lit (.bool true)) := by
  unfold Sn
  rw [List.take_add_one, List.map_append, List.getElem?_eq_getElem hk]
  simp only [Option.toList, List.map_cons, List.map_nil]
  rw [setOf_snoc, List.getD, List.getElem?_eq_getElem hk]
  rfl
theorem Sn_zero (zs : List Int) : Sn zs 0 = .map [] := by simp [Sn, setOf]

theorem wf_at {zs : List Int} (hwz : ∀ n ∈ zs, (Lit.int .i64 n).wf = true) (k : Nat) : (Lit.int .i64 (zs.getD k 0)).wf = true := by
  by_cases hk : k < zs.length
  · rw [List.getD, List.getElem?_eq_getElem hk]
    exact hwz _ (List.getElem_mem hk)
  · rw [List.getD, List.getElem?_eq_none (by omega)]
    decide
theorem law3 : Keyed Tryz.prog 3 := int_keyed Tryz.underlying3

set_option maxRecDepth 100000 in
theorem distinct_none (a : Option Addr) (cap : Nat) (w : World) : Calls Tryz.prog 81 #[.slice a 0 cap] w fun e w' => e = .returned (.int .i64 0) ∧ Below w.heap.size w w' := by
  have hmm := @run_makeMap Tryz.prog
  go_enter Tryz.func81, Tryz.ntmps81
  go_wp2
  refine wp_loop_rounds 1 ?_
  rw [rounds_succ]
  go_wp2_with (first
    | (at_len; refine wpList_len_own _ rfl _ 179 rfl 3 4 Tryz.underlying179 (plainElem (H := Unit) Tryz.prog 4) w.heap.size 0 (.map []) rfl (World.ownsMap_made _ _ _ _) ?_)
    | go_in)
  go_ret
  exact ⟨rfl, (Below.refl _ _).alloc (Nat.le_refl _) _⟩

set_option maxRecDepth 100000 in
theorem distinct_any (b off len cap : Nat) (zs : List Int) (w : World) (hreach : len ≤ 1000000) (hz : len ≤ zs.length) (hb : b < w.heap.size)
    (hc : ∀ j, j < zs.length → w.cell? ⟨b, off + j, none⟩ = some (.int .i64 (zs.getD j 0))) (hwz : ∀ n ∈ zs, (Lit.int .i64 n).wf = true) :
    Calls Tryz.prog 81 #[.slice (some ⟨b, off, none⟩) len cap] w fun e w' => e = .returned (.int .i64 (Maps.size (Sn zs len))) ∧ Below w.heap.size w w' := by
  have hmm := @run_makeMap Tryz.prog
  go_enter Tryz.func81, Tryz.ntmps81
  go_wp2
  go_loopw [9] (fun i wr => ∃ k : Nat, k ≤ len ∧ i = .int .i64 k ∧ wr.ownsMap Tryz.prog 3 (plainElem Tryz.prog 4) w.heap.size k (Sn zs k) ∧ Below w.heap.size w wr)
    (fun i _ => len - (intOf i).toNat)
  case atStart => exact ⟨0, Nat.zero_le _, rfl, by rw [Sn_zero]; exact World.ownsMap_made _ _ _ _, (Below.refl _ _).alloc (Nat.le_refl _) _⟩
  case round =>
    obtain ⟨k, hk, rfl, hown, hnx⟩ := hrel
    have hcx : k < len → wr.cell? ⟨b, off + k, none⟩ = some (.int .i64 (zs.getD k 0)) := fun _ => (hnx.cell (by exact hb)).trans (hc k (by omega))
    have hkey : keyOf Tryz.prog 3 (.int .i64 (zs.getD k 0)) = some (.int .i64 (zs.getD k 0)) := keyOf_int_mk Tryz.underlying3 (wf_at hwz k)
    go_wp2_with (first
      | (at_mapUpdate; refine wpList_mapUpdate_own _ rfl _ _ _ 179 rfl 3 4 law3 Tryz.underlying179 (plainElem (H := Unit) Tryz.prog 4) w.heap.size k _ rfl hown (by unfold maxLen; omega) _ _ _ rfl rfl hkey _ [] (plainElem_bool Tryz.underlying4 true) ?_; intro w1 hown1 hgrow1)
      | (at_len; refine wpList_len_own _ rfl _ 179 rfl 3 4 Tryz.underlying179 _ w.heap.size k _ rfl hown ?_)
      | go_in)
    · have hlt : k < len := by assumption
      go_roundw
      case rel => exact ⟨k + 1, by omega, by go_num, (Sn_succ zs k (by omega)).symm ▸ hown1, hnx.grown hgrow1 hnx.size (fun j hj => by cases hj; exact Nat.le_refl _)⟩
      case measure => simp [intOf]; omega
    · have : k = len := by omega
      subst this
      go_ret
      exact ⟨rfl, hnx⟩
end Go.Pv

/- The configuration is right; what the law is handed is a query and an input. -/
namespace Go.Pv
open Go Go.Proofs Go.RowKit
set_option maxRecDepth 100000

theorem ccP : cc.P = Tryz.prog := rfl

theorem distinct_ok {args : List V} {r : V} (he : distinctV args = some r) : PureOk cc.P 81 args r := by
  refine ⟨⟨Tryz.f81, Tryz.func81, by kernel_rfl, by kernel_rfl⟩, fun F w vargs hA => ?_⟩
  match args, he with
  | [.sl n cells], he =>
    have he' : cond (Nat.beq n cells.length && (intsB cells && decide (n ≤ 1000000))) (some (V.int .i64 ((cells.map V.toI).eraseDups.length : Nat))) none = some r := he
    rcases cond_cases he' with ⟨hc, he2⟩ | ⟨_, he2⟩
    case inr => cases he2
    obtain rfl := Option.some.inj he2
    simp only [Bool.and_eq_true, decide_eq_true_eq] at hc
    obtain ⟨h1, h2, h3⟩ := hc
    have hn : n = cells.length := Nat.eq_of_beq_eq_true h1
    have hone : vargs.size = 1 := hA.len
    obtain ⟨u, hu⟩ : ∃ u, vargs = #[u] := by
      obtain ⟨l⟩ := vargs
      match l, hone with
      | [u], _ => exact ⟨u, rfl⟩
    subst hu
    have hr := hA.rep 0 (.sl n cells) u rfl rfl
    have ints : ∀ (l : List V), intsB l = true → ∀ (j : Nat) (c : V), l[j]? = some c → ∃ k : Int, c = .int .i64 k ∧ -9223372036854775808 ≤ k ∧ k ≤ 9223372036854775807 := by
      intro l
      induction l with
      | nil => intro _ j c hj; simp at hj
      | cons x l ih =>
        intro hl j c hj
        simp only [intsB, Bool.and_eq_true] at hl
        cases j with
        | zero =>
          simp only [List.getElem?_cons_zero, Option.some.injEq] at hj
          subst hj
          have hx := hl.1
          unfold intB at hx
          split at hx
          · simp only [Bool.and_eq_true, decide_eq_true_eq] at hx
            exact ⟨_, rfl, hx.1, hx.2⟩
          · cases hx
        | succ j => exact ih hl.2 j c (by simpa using hj)
    have done : ∀ (e : Ending) (w' : World), e = .returned (.int .i64 ((cells.map V.toI).eraseDups.length : Nat)) → Below w.heap.size w w' → PurePost F w (.int .i64 ((cells.map V.toI).eraseDups.length : Nat)) e w' := by
      intro e w' he hb
      exact ⟨_, F, he, ⟨hb, Fz.le_refl F, fun _ _ _ => rfl, fun b o u hu => (Later.of_below hb).cell (hA.cell b o u hu), hA.one⟩, .int _ _⟩
    by_cases h0 : n = 0
    · have hcells : cells = [] := List.eq_nil_of_length_eq_zero (by omega)
      subst hcells
      subst h0
      obtain ⟨a, cap, rfl⟩ : ∃ a cap, u = .slice a 0 cap := by
        cases hr with
        | sl0 a cap => exact ⟨_, _, rfl⟩
        | sl b o n cap cells hn hs hr => exact ⟨_, _, rfl⟩
      exact (distinct_none a cap w).mono fun e w' ⟨he, hb⟩ => done e w' he hb
    · cases hr with
      | sl0 a cap => exact absurd rfl h0
      | sl b o n cap cells hcap hs hr =>
        have cell : ∀ (j : Nat) (c : V), cells[j]? = some c → ∃ k : Int, c = .int .i64 k ∧ w.cell? ⟨b, o + j, none⟩ = some (.int .i64 k) ∧ -9223372036854775808 ≤ k ∧ k ≤ 9223372036854775807 := by
          intro j c hj
          obtain ⟨k, rfl, hk⟩ := ints cells h2 j c hj
          obtain ⟨v, hv⟩ := Option.isSome_iff_exists.1 (hs j _ hj)
          have := hr j _ v hj hv
          cases this
          exact ⟨k, rfl, hA.cell b (o + j) _ hv, hk⟩
        have hz : ∀ j, j < cells.length → ∃ k : Int, cells[j]? = some (.int .i64 k) ∧ (cells.map V.toI).getD j 0 = k ∧ w.cell? ⟨b, o + j, none⟩ = some (.int .i64 k) ∧ -9223372036854775808 ≤ k ∧ k ≤ 9223372036854775807 := by
          intro j hj
          obtain ⟨k, h4, h5, h6⟩ := cell j _ (List.getElem?_eq_getElem hj)
          have e : cells[j]? = some (.int .i64 k) := by rw [List.getElem?_eq_getElem hj, h4]
          refine ⟨k, e, ?_, h5, h6⟩
          rw [List.getD, List.getElem?_map, e]
          rfl
        have hb : b < w.heap.size := by
          obtain ⟨k, _, _, h6, _⟩ := hz 0 (by omega)
          rcases Nat.lt_or_ge b w.heap.size with h | h
          · exact h
          · simp [World.cell?, Array.getElem?_eq_none h] at h6
        refine (distinct_any b o n cap (cells.map V.toI) w h3 (by rw [List.length_map]; omega) hb (fun j hj => ?_) (fun z hz' => ?_)).mono fun e w' ⟨he, hb'⟩ => done e w' ?_ hb'
        · rw [List.length_map] at hj
          obtain ⟨k, _, h7, h8, _⟩ := hz j hj
          rw [h7]; exact h8
        · obtain ⟨j, hj, hj'⟩ := List.mem_iff_getElem.1 hz'
          rw [List.length_map] at hj
          obtain ⟨k, h6, h7, _, h9, h10⟩ := hz j hj
          have : z = k := by
            rw [← hj', ← h7, List.getD, List.getElem?_eq_getElem (by rw [List.length_map]; exact hj)]
            rfl
          rw [this]
          simp [Lit.wf, IntKind.min, IntKind.max, IntKind.signed, IntKind.bits]
          omega
        · rw [he]
          unfold Sn
          rw [List.take_of_length_le (by rw [List.length_map]; omega), size_distinct]

theorem eqs_ok : (eqTab.all fun t => !(Tryz.prog.stoodInHeld t) && !(Tryz.prog.eqGuardType Tryz.prog.depth t)) = true := by kernel_rfl
theorem names_ok : (Tryz.prog.funcs.toList.all fun fn => !(fn.name == "runtime.NumGoroutine")) = true := by kernel_rfl
theorem modes_ok : (mdTab.all fun m => match m with | some .xown => false | _ => true) = true := by kernel_rfl

theorem cc_ok : CfgOk cc where
  mixed := by kernel_rfl
  eqs := fun t ht => by
    have := List.all_eq_true.1 eqs_ok t ht
    simp only [Bool.and_eq_true, Bool.not_eq_true'] at this
    exact this
  name := fun f fn _ hf => by
    have hm : fn ∈ Tryz.prog.funcs.toList := by
      have := Array.mem_of_getElem? hf
      exact Array.mem_toList_iff.2 this
    have := List.all_eq_true.1 names_ok fn hm
    simpa using this
  ext := fun f args r _ he => by
    have he' : cond (memN distinctTab f) (distinctV args) none = some r := he
    rcases cond_cases he' with ⟨h1, h2⟩ | ⟨_, h2⟩
    · have hf : f = 81 := by
        simp only [distinctTab, memN] at h1
        rcases cond_cases (x := some (V.bool true)) (y := none) (r := .bool true) (t := Nat.beq 81 f) (by cases hb : Nat.beq 81 f <;> simp [hb] at h1 ⊢) with ⟨h, _⟩ | ⟨_, h⟩
        · exact (Nat.eq_of_beq_eq_true h).symm
        · cases h
      subst hf
      exact distinct_ok h2
    · cases h2
  xown := fun f args r ks hm _ _ => by
    exfalso
    have hm' : (mdTab[f]?).getD none = some .xown := hm
    cases hg : mdTab[f]? with
    | none => rw [hg] at hm'; cases hm'
    | some m =>
      rw [hg] at hm'
      have := List.all_eq_true.1 modes_ok m (List.mem_of_getElem? hg)
      simp only [Option.getD_some] at hm'
      subst hm'
      cases this

/-! ### Shapes -/
theorem lift_list {α : Type} (enc : α → List V) : ∀ (elems : List (List V)), (∀ y ∈ elems, ∃ a, y = enc a) → ∃ l : List α, elems = l.map enc
  | [], _ => ⟨[], rfl⟩
  | y :: elems, h => by
    obtain ⟨a, rfl⟩ := h y (List.mem_cons_self ..)
    obtain ⟨l, rfl⟩ := lift_list enc elems (fun z hz => h z (List.mem_cons_of_mem _ hz))
    exact ⟨a :: l, rfl⟩
section
variable {P : Program} {d : Nat} {xs : List V}
theorem hasT_bool {t : TypeId} (ht : P.underlying t = some .bool) (h : hasT P (d + 1) t xs) : ∃ b, xs = [.bool b] := by unfold hasT at h; rw [ht] at h; exact h
theorem hasT_int {t : TypeId} {k : IntKind} (ht : P.underlying t = some (.int k)) (h : hasT P (d + 1) t xs) : ∃ n, xs = [.int k n] := by unfold hasT at h; rw [ht] at h; exact h
theorem hasT_str {t : TypeId} (ht : P.underlying t = some .string) (h : hasT P (d + 1) t xs) : ∃ s, xs = [.str s] := by unfold hasT at h; rw [ht] at h; exact h
theorem hasT_slice {α : Type} (enc : α → List V) {t e : TypeId} (ht : P.underlying t = some (.slice e)) (he : ∀ y, hasT P d e y → ∃ a, y = enc a) (h : hasT P (d + 1) t xs) : ∃ l : List α, xs = [.sl l.length (l.flatMap enc)] := by
  unfold hasT at h
  rw [ht] at h
  obtain ⟨elems, rfl, h2⟩ := h
  obtain ⟨l, rfl⟩ := lift_list enc elems (fun y hy => he y (h2 y hy))
  exact ⟨l, by rw [List.length_map, List.flatMap_def]⟩
theorem hasT_struct {t : TypeId} {fs : Array Field} (ht : P.underlying t = some (.struct fs)) (h : hasT P (d + 1) t xs) : ∃ parts : List (List V), parts.length = fs.size ∧ xs = parts.flatten ∧ ∀ (i : Nat) (f : Field) (y : List V), fs[i]? = some f → parts[i]? = some y → hasT P d f.type y := by
  unfold hasT at h; rw [ht] at h; exact h
end

theorem is_node {d : Nat} {y : List V} (h : hasT Tryz.prog (d + 2) 59 y) : ∃ x : Node, y = encNode x := by
  obtain ⟨parts, h1, rfl, h2⟩ := hasT_struct Tryz.underlying59 h
  match parts, h1 with
  | [a, b, c, e, f], _ =>
    obtain ⟨k, rfl⟩ := hasT_int Tryz.underlying5 (h2 0 _ a rfl rfl)
    obtain ⟨n, rfl⟩ := hasT_int Tryz.underlying2 (h2 1 _ b rfl rfl)
    obtain ⟨i, rfl⟩ := hasT_int Tryz.underlying3 (h2 2 _ c rfl rfl)
    obtain ⟨j, rfl⟩ := hasT_int Tryz.underlying3 (h2 3 _ e rfl rfl)
    obtain ⟨m, rfl⟩ := hasT_int Tryz.underlying3 (h2 4 _ f rfl rfl)
    exact ⟨⟨k, n, i, j, m⟩, rfl⟩
theorem is_nodes {d : Nat} {y : List V} (h : hasT Tryz.prog (d + 3) 22 y) : ∃ l : List Node, y = [.sl l.length (encNodes l)] :=
  hasT_slice encNode Tryz.underlying22 (fun _ hy => is_node hy) h
theorem is_ints {d : Nat} {y : List V} (h : hasT Tryz.prog (d + 2) 23 y) : ∃ l : List Int, y = [.sl l.length (ints l)] := by
  obtain ⟨l, rfl⟩ := hasT_slice (fun x : Int => [V.int .i64 x]) Tryz.underlying23 (fun _ hy => hasT_int Tryz.underlying3 hy) h
  refine ⟨l, ?_⟩
  have : l.flatMap (fun x : Int => [V.int .i64 x]) = ints l := by
    unfold ints
    clear h
    induction l with
    | nil => rfl
    | cons x l ih => simp [ih]
  rw [this]
theorem is_win {d : Nat} {y : List V} (h : hasT Tryz.prog (d + 2) 25 y) : ∃ w : Win, y = encWin w := by
  obtain ⟨parts, h1, rfl, h2⟩ := hasT_struct Tryz.underlying25 h
  match parts, h1 with
  | [a, b, c], _ =>
    obtain ⟨k, rfl⟩ := hasT_int Tryz.underlying5 (h2 0 _ a rfl rfl)
    obtain ⟨n, rfl⟩ := hasT_int Tryz.underlying2 (h2 1 _ b rfl rfl)
    obtain ⟨m, rfl⟩ := hasT_int Tryz.underlying2 (h2 2 _ c rfl rfl)
    exact ⟨⟨k, n, m⟩, rfl⟩
theorem is_query {d : Nat} {y : List V} (h : hasT Tryz.prog (d + 4) 27 y) : ∃ q : Query, y = encQ q := by
  obtain ⟨parts, h1, rfl, h2⟩ := hasT_struct Tryz.underlying27 h
  match parts, h1 with
  | [a, b, c, e, f, g, i, j], _ =>
    obtain ⟨ag, rfl⟩ := hasT_int Tryz.underlying5 (h2 0 _ a rfl rfl)
    obtain ⟨arg, rfl⟩ := is_nodes (h2 1 _ b rfl rfl)
    obtain ⟨src, rfl⟩ := is_ints (h2 2 _ c rfl rfl)
    obtain ⟨jn, rfl⟩ := hasT_bool Tryz.underlying4 (h2 3 _ e rfl rfl)
    obtain ⟨wh, rfl⟩ := is_nodes (h2 4 _ f rfl rfl)
    obtain ⟨w, rfl⟩ := is_win (h2 5 _ g rfl rfl)
    obtain ⟨bk, rfl⟩ := hasT_bool Tryz.underlying4 (h2 6 _ i rfl rfl)
    obtain ⟨lt, rfl⟩ := hasT_int Tryz.underlying5 (h2 7 _ j rfl rfl)
    exact ⟨⟨ag, arg, src, jn, wh, w, bk, lt⟩, rfl⟩
theorem is_item {d : Nat} {y : List V} (h : hasT Tryz.prog (d + 3) 96 y) : ∃ x : Item, y = encItem x := by
  obtain ⟨parts, h1, rfl, h2⟩ := hasT_struct Tryz.underlying96 h
  match parts, h1 with
  | [a, b, c], _ =>
    obtain ⟨m, rfl⟩ := hasT_bool Tryz.underlying4 (h2 0 _ a rfl rfl)
    obtain ⟨t, rfl⟩ := hasT_int Tryz.underlying2 (h2 1 _ b rfl rfl)
    obtain ⟨parts, k1, rfl, k2⟩ := hasT_struct Tryz.underlying94 (h2 2 _ c rfl rfl)
    match parts, k1 with
    | [e, f, g], _ =>
      obtain ⟨k, rfl⟩ := hasT_int Tryz.underlying2 (k2 0 _ e rfl rfl)
      obtain ⟨tm, rfl⟩ := hasT_int Tryz.underlying2 (k2 1 _ f rfl rfl)
      obtain ⟨v, rfl⟩ := hasT_int Tryz.underlying2 (k2 2 _ g rfl rfl)
      exact ⟨⟨m, t, k, tm, v⟩, rfl⟩
theorem is_input {d : Nat} {y : List V} (h : hasT Tryz.prog (d + 5) 28 y) : ∃ l : List (List Item), y = [.sl l.length (encInput l)] := by
  obtain ⟨l, rfl⟩ := hasT_slice (fun x : List Item => [V.sl x.length (encItems x)]) Tryz.underlying28 (fun _ hy => hasT_slice encItem Tryz.underlying46 (fun _ hz => is_item hz) hy) h
  refine ⟨l, ?_⟩
  have : l.flatMap (fun x : List Item => [V.sl x.length (encItems x)]) = encInput l := by
    unfold encInput
    clear h
    induction l with
    | nil => rfl
    | cons x l ih => simp [ih]
  rw [this]

theorem params_ok : ∀ t ∈ Tryz.f3.params.toList, plainT Tryz.prog 12 t = true ∧ Tryz.prog.readableRec t = true ∧ t < Tryz.prog.types.size := by
  have h : (Tryz.f3.params.toList.all fun t => plainT Tryz.prog 12 t && (Tryz.prog.readableRec t && decide (t < Tryz.prog.types.size))) = true := by kernel_rfl
  intro t ht
  have := List.all_eq_true.1 h t ht
  simpa only [Bool.and_eq_true, decide_eq_true_eq] using this

theorem agg27 : isAggT Tryz.prog 27 = true := by kernel_rfl
theorem agg28 : isAggT Tryz.prog 28 = false := by kernel_rfl
theorem agg3 : isAggT Tryz.prog 3 = false := by kernel_rfl
theorem law_call (xss : List (List V)) (hl : xss.length = Tryz.f3.params.toList.length) (h : ∀ (j : Nat) (t : TypeId) (xs : List V), Tryz.f3.params.toList[j]? = some t → xss[j]? = some xs → hasT Tryz.prog 12 t xs) :
    ∃ n, call cc n 3 ((Tryz.f3.params.toList.zip xss).map fun p => mkV (isAggT Tryz.prog p.1) p.2) = some (.bool true) := by
  rw [Tryz.params3] at hl h ⊢
  match xss, hl with
  | [a, b, c, e], _ =>
    obtain ⟨q, rfl⟩ := is_query (h 0 27 a rfl rfl)
    obtain ⟨inp, rfl⟩ := is_input (h 1 28 b rfl rfl)
    obtain ⟨p, rfl⟩ := hasT_int Tryz.underlying3 (h 2 3 c rfl rfl)
    obtain ⟨room, rfl⟩ := hasT_int Tryz.underlying3 (h 3 3 e rfl rfl)
    obtain ⟨N0, hN⟩ := law q inp p room
    refine ⟨N0, ?_⟩
    have := hN N0 (Nat.le_refl _)
    simp only [List.zip_cons_cons, List.zip_nil_left, List.map_cons, List.map_nil, agg27, agg28, agg3]
    exact this
end Go.Pv

/- BuildMakes: for every query, input and numbers, Build returns what the reference returns (the law answers true), and each argument reads as it read. -/
namespace Go.Proofs.YtdelcbejcdpmiaaGreat.buildMakes
open Go Go.ChangeShapes Go.WideShapes Go.RowKit

theorem own : ownKnob Tryz.prog.godebug = none := by kernel_rfl
theorem laid : laidOutB Tryz.prog = true := by kernel_rfl
theorem result : Tryz.f3.resultTypes = #[4] := by kernel_rfl
theorem mode : Go.Pv.cc.md 3 = some .pure := by kernel_rfl

set_option maxRecDepth 100000 in
theorem lifted (os : Os) (started : os.Started) (H : Type) (enc : TypeId × Value → H) :
    ReturnsInHanded {} Tryz.checked os 3 .any (Rows.buildMakesSpec.pre6 enc Tryz.prog Tryz.f3 Rows.buildMakesRow.domain false) (Rows.buildMakesSpec.post enc Tryz.prog Tryz.f3 false true false false) := by
  refine returnsInHanded_of_change (C := Tryz.checked) own started (by kernel_rfl) Tryz.func3
    (ChangeSpec.witness6 (enc := enc) (C := Tryz.checked) false ⟨#[], #[.agg #[.int .u8 0, .slice none 0 0, .slice none 0 0, .bool false, .slice none 0 0, .int .u8 0, .int .i64 0, .int .i64 0, .bool false, .int .u8 0], .slice none 0 0, .int .i64 0, .int .i64 0], []⟩ 8 (by kernel_rfl) (by kernel_rfl) (by kernel_rfl) (by kernel_rfl)) ?_
  intro W base args ds gs before hval hW _ _
  exact Go.Pv.law_contract (c := Go.Pv.cc) (f := 3) (fn := Tryz.f3) (k := 12) (tb := 4) Go.Pv.cc_ok Tryz.func3 result Tryz.underlying4 mode laid Go.Pv.params_ok Go.Pv.law_call (s := Rows.buildMakesSpec) rfl (fun ds hl => by
    rw [Tryz.params3] at hl
    match ds, hl with
    | [a, b, c, d], _ => exact ⟨rfl, rfl, rfl⟩) hval hW

theorem holds : Rows.BuildMakesSaid :=
  OpenClaim.holds_of_wide 3 Tryz.f3 rfl rfl rfl rfl rfl rfl rfl ⟨rfl, rfl, rfl, rfl, rfl⟩ rfl rfl rfl rfl rfl (by kernel_rfl) Tryz.func3 (by kernel_rfl)
    (of_decide_eq_true (by kernel_rfl)) (by unfold Func.isWrapper; first | (rw [if_pos (by decide +kernel)]; kernel_rfl) | (rw [if_neg (by decide +kernel)]; exact ⟨rfl, rfl⟩))
    (fun os started H enc _ => lifted os started H enc)
end Go.Proofs.YtdelcbejcdpmiaaGreat.buildMakes
