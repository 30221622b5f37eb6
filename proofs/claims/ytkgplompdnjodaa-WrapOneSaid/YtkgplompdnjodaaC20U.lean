/-
  Chapter 20: the rows of a line, in plain Lean. Conditions: none.
-/
import Derived.Test.YtkgplompdnjodaaC20S
namespace Go.Fr.C20
open Go Go.Fr Go.Proofs

theorem width_acc : ∀ (l : List Cell) (n : Int), l.foldl (fun n c => n + wd c) n = n + width l
  | [], n => by simp [width]
  | c :: l, n => by
    unfold width
    simp only [List.foldl_cons]
    rw [width_acc l, width_acc l (0 + wd c)]
    omega
theorem width_cons (c : Cell) (l : List Cell) : width (c :: l) = wd c + width l := by
  show l.foldl _ (0 + wd c) = _
  rw [width_acc]
  omega
theorem width_app : ∀ (a b : List Cell), width (a ++ b) = width a + width b
  | [], b => by show width b = 0 + width b; omega
  | c :: a, b => by rw [List.cons_append, width_cons, width_cons, width_app a b]; omega
theorem width_in (x : Int) : ∀ n : Nat, width (List.replicate n (inCell x)) = n
  | 0 => rfl
  | n + 1 => by
    rw [List.replicate_succ, width_cons, width_in x n]
    show (1 : Int) + n = _
    omega
theorem width_behind {n : Int} (hn : 0 ≤ n) (x : List Cell) : width (behind n x) = n + width x := by
  unfold behind
  rw [width_app, width_in]
  omega
theorem fg_fits {room : Int} {l : List Cell} : ∀ (n k : Nat), n + 1 ≤ fitGo room (l.drop k) (width (l.take k)) → k + (n + 1) ≤ l.length → width (l.take (k + (n + 1))) ≤ room
  | 0, k, h, hk => by
    rw [fg_step (by omega)] at h
    have ws := width_succ (l := l) (k := k) (by omega)
    split at h
    · rw [show k + (0 + 1) = k + 1 by omega]; omega
    · omega
  | n + 1, k, h, hk => by
    rw [fg_step (by omega)] at h
    have ws := width_succ (l := l) (k := k) (by omega)
    split at h
    · rw [← ws] at h
      have := fg_fits (room := room) (l := l) n (k + 1) (by omega) (by omega)
      rw [show k + (n + 1 + 1) = k + 1 + (n + 1) by omega]
      exact this
    · omega
theorem start_fit (l : List Cell) (room : Int) : start l room ≤ fit l room := by
  unfold start
  have := takes_fit l room
  split
  · split <;> omega
  · exact this
theorem take_wide {l : List Cell} (hl : okL l) {room : Int} (hr : 2 ≤ room) {m : Nat} (hm : m ≤ fit l room) (hml : m ≤ l.length) : width (l.take m) ≤ room := by
  cases m with
  | zero => show (0 : Int) ≤ room; omega
  | succ m =>
    have st := fg_step (room := room) (l := l) (k := 0) (by omega) 0
    have b := ok_get hl (show 0 < l.length by omega)
    rw [if_pos (by omega)] at st
    have e : fitGo room l 0 = fitGo room (l.drop (0 + 1)) (0 + wd (l.getD 0 zCell)) + 1 := st
    unfold fit at hm
    rw [if_neg (by omega)] at hm
    have := fg_fits (room := room) (l := l) m 0 hm (by omega)
    rwa [Nat.zero_add] at this
theorem tail_wide {hg q : Int} (h0 : 0 ≤ hg) (hq : 2 ≤ q) : ∀ (f : Nat) (l : List Cell) (i : Nat), okL l → ∀ x ∈ cutRows hg (i + 1) (rowsGo q f l (takes l q)) l, width x ≤ hg + q
  | 0, _, _, _, x, hx => by cases hx
  | f + 1, l, i, hl, x, hx => by
    rw [rowsGo, cutRows] at hx
    rcases List.mem_cons.1 hx with e | e
    · subst e
      rw [if_neg (by omega), toNat_cast, width_behind h0]
      have := take_wide hl hq (takes_fit l q) (takes_le l q)
      omega
    · rw [toNat_cast] at e
      by_cases g : l.drop (takes l q) = []
      · rw [if_pos g] at e; cases e
      · rw [if_neg g] at e
        exact tail_wide h0 hq f _ (i + 1) (okL_drop hl _) x e
theorem rows_wide {l : List Cell} (hl : okL l) {w : Int} (hw : 2 ≤ w) (hw2 : w ≤ 200) : ∀ x ∈ rowsW l w, width x ≤ w := by
  intro x hx
  have b := hang_bd hl w
  unfold rowsW wtakes at hx
  rw [if_neg (by omega)] at hx
  unfold allR at hx
  rw [rowsGo, cutRows] at hx
  rcases List.mem_cons.1 hx with e | e
  · subst e
    rw [if_pos rfl, toNat_cast, width_behind (by omega)]
    have := take_wide hl hw (start_fit l w) (start_le l w)
    omega
  · rw [toNat_cast] at e
    by_cases g : l.drop (start l w) = []
    · rw [if_pos g] at e; cases e
    · rw [if_neg g] at e
      have := tail_wide (hg := hang l w) (q := w - hang l w) b.1 (by omega) _ _ 0 (okL_drop hl _) x e
      omega
/-- Is a cell not of the indent? -/
def notIn (c : Cell) : Bool := !decide (c.2.1 = 5)
def noIn (l : List Cell) : Prop := ∀ c ∈ l, ¬ c.2.1 = 5
theorem filt_in (n : Nat) (x : Int) : (List.replicate n (inCell x)).filter notIn = [] := by
  rw [List.filter_eq_nil_iff]
  intro c hc
  rw [List.eq_of_mem_replicate hc]
  simp [notIn, inCell]
theorem filt_no {l : List Cell} (h : noIn l) : l.filter notIn = l := by
  rw [List.filter_eq_self]
  intro c hc
  simp [notIn, h c hc]
theorem filt_behind {n : Int} {x : List Cell} (h : noIn x) : (behind n x).filter notIn = x := by
  unfold behind
  rw [List.filter_append, filt_in, filt_no h]
  rfl
theorem no_take {l : List Cell} (h : noIn l) (n : Nat) : noIn (l.take n) := fun c hc => h c (List.mem_of_mem_take hc)
theorem no_drop {l : List Cell} (h : noIn l) (n : Nat) : noIn (l.drop n) := fun c hc => h c (List.mem_of_mem_drop hc)
theorem cut_flat {h : Int} : ∀ (T : List Int) (i : Nat) (l : List Cell), Cuts T l → noIn l → (cutRows h i T l).flatten.filter notIn = l
  | [], _, _, hc, _ => hc.elim
  | n :: ns, i, l, hc, hn => by
    obtain ⟨m, rfl, _, _, h4⟩ := hc
    rw [cutRows, toNat_cast, List.flatten_cons, List.filter_append, filt_behind (no_take hn m)]
    rcases h4 with ⟨rfl, h5⟩ | ⟨_, h5⟩
    · have : (cutRows h (i + 1) [] (l.drop m)).flatten.filter notIn = [] := rfl
      rw [this, List.append_nil]
      have := List.take_append_drop m l
      rwa [h5, List.append_nil] at this
    · rw [cut_flat ns (i + 1) _ h5 (no_drop hn m)]
      exact List.take_append_drop m l
/-- How many cells are of the indent. -/
def cnt5 : List Cell → Nat
  | [] => 0
  | c :: r => if c.2.1 = 5 then cnt5 r + 1 else cnt5 r
theorem cnt5_app : ∀ (a b : List Cell), cnt5 (a ++ b) = cnt5 a + cnt5 b
  | [], b => (Nat.zero_add _).symm
  | c :: a, b => by
    simp only [List.cons_append, cnt5, cnt5_app a b]
    split <;> omega
theorem cnt5_no : ∀ {l : List Cell}, noIn l → cnt5 l = 0
  | [], _ => rfl
  | c :: r, h => by
    unfold cnt5
    rw [if_neg (h c (List.mem_cons_self ..))]
    exact cnt5_no fun d hd => h d (List.mem_cons_of_mem _ hd)
theorem cnt5_in (x : Int) : ∀ n : Nat, cnt5 (List.replicate n (inCell x)) = n
  | 0 => rfl
  | n + 1 => by rw [List.replicate_succ, cnt5, if_pos (show (inCell x).2.1 = 5 from rfl), cnt5_in x n]
theorem cnt5_behind {n : Int} {x : List Cell} (h : noIn x) : cnt5 (behind n x) = n.toNat := by
  unfold behind
  rw [cnt5_app, cnt5_in, cnt5_no h]
  rfl
theorem cnt5_succ {r : List Cell} {k : Nat} (h : k < r.length) : cnt5 (r.take (k + 1)) = cnt5 (r.take k) + if (r.getD k zCell).2.1 = 5 then 1 else 0 := by
  rw [List.take_add_one, cnt5_app, List.getElem?_eq_getElem h, getD_of _ h]
  simp only [Option.toList, cnt5]
theorem cut_get {h : Int} : ∀ (T : List Int) (i : Nat) (l : List Cell), Cuts T l → (0 < i → l ≠ []) → noIn l → ∀ k, k < T.length → ∃ x, (cutRows h i T l).getD k [] = behind (if i + k = 0 then 0 else h) x ∧ noIn x ∧ (0 < i + k → x ≠ [])
  | [], _, _, hc, _, _, _, _ => hc.elim
  | n :: ns, i, l, hc, hi, hn, k, hk => by
    obtain ⟨m, rfl, _, h3, h4⟩ := hc
    rw [cutRows, toNat_cast]
    cases k with
    | zero =>
      refine ⟨l.take m, rfl, no_take hn m, fun h0 e => ?_⟩
      have hl := hi (by omega)
      have := h3 hl
      have h5 := congrArg List.length e
      rw [List.length_take] at h5
      have : 1 ≤ l.length := by cases l <;> simp_all
      simp only [List.length_nil] at h5
      omega
    | succ k =>
      rcases h4 with ⟨rfl, _⟩ | ⟨h5, h6⟩
      · simp at hk
      · obtain ⟨x, x1, x2, x3⟩ := cut_get (h := h) ns (i + 1) _ h6 (fun _ => h5) (no_drop hn m) k (by simpa using hk)
        refine ⟨x, ?_, x2, fun _ => x3 (by omega)⟩
        rw [List.getD_cons_succ, x1, if_neg (by omega), if_neg (by omega)]
theorem fitGo_all {room : Int} {l : List Cell} (h : ∀ k, k ≤ l.length → width (l.take k) ≤ room) : ∀ n k, k + n = l.length → fitGo room (l.drop k) (width (l.take k)) = n
  | 0, k, hk => fg_end (by omega) _
  | n + 1, k, hk => by
    rw [fg_step (by omega), ← width_succ (by omega), if_pos (h _ (by omega)), fitGo_all h n (k + 1) (by omega)]
theorem behind_0 (l : List Cell) : behind 0 l = l := rfl
theorem rows_one {l : List Cell} (hl : okL l) {w : Int} (h1 : 1 ≤ w) (hw : width l ≤ w) (hne : l ≠ []) : rowsW l w = [l] := by
  have hlen : 1 ≤ l.length := by cases l <;> simp_all
  have hf : fitGo w l 0 = l.length := by
    have := fitGo_all (room := w) (l := l) (fun k hk => ?_) l.length 0 (by omega)
    · exact this
    · have wm := width_mono hl (l.length - k) k (by omega)
      rw [show k + (l.length - k) = l.length by omega, List.take_length] at wm
      omega
  have hfit : fit l w = l.length := by unfold fit; rw [if_neg (by omega), hf]
  have ht : takes l w = l.length := by unfold takes; rw [if_neg hne, if_pos hfit, hfit]
  have hs : start l w = l.length := by unfold start; rw [ht, hfit, if_neg (show ¬ l.length = 0 by omega), ite_self]
  unfold rowsW wtakes
  rw [if_neg (by omega)]
  unfold allR
  rw [rowsGo, hs, if_pos (List.drop_length ..), cutRows, if_pos rfl, toNat_cast, List.take_length]
  rfl
theorem rows_0 (l : List Cell) : rowsW l 0 = [l] := by
  unfold rowsW wtakes
  rw [if_pos rfl, cutRows, if_pos rfl, toNat_cast, List.take_length]
  rfl
end Go.Fr.C20
