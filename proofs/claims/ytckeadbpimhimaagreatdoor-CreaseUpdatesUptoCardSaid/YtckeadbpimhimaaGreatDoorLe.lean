/-
  Chapter 16: the row of CreaseUpdates, where the arguments' bulk is bounded. Conditions: none.
-/
import Derived.Test.YtckeadbpimhimaaGreatDoorU7
namespace Go.Proofs.YtckeadbpimhimaaGreatDoor
open Go Go.Fr Go.Fr.Z16 Go.ChangeShapes Go.WideShapes Go.ChangeAt Go.RowKit
theorem bulkAll_eq {H : Type} : (l : List (DataW H)) → Rows.uptoBulkAll l = (l.map Rows.uptoBulk).sum
  | [] => by simp [Rows.uptoBulkAll]
  | d :: r => by rw [Rows.uptoBulkAll, bulkAll_eq r, List.map_cons, List.sum_cons]
theorem bulkOk {H : Type} : IsBulk (H := H) Rows.uptoBulk where
  one := fun d => by
    cases d with
    | lit l => cases l <;> simp [Rows.uptoBulk]
    | nil => simp [Rows.uptoBulk]
    | ptr d => simp [Rows.uptoBulk]
    | slice elems spare => simp [Rows.uptoBulk]
    | agg parts => simp [Rows.uptoBulk]
    | iface t d => simp [Rows.uptoBulk]
    | map entries => simp [Rows.uptoBulk]
    | held h => simp [Rows.uptoBulk]
  str := fun s => by simp [Rows.uptoBulk]
  slice := fun a b => by rw [Rows.uptoBulk, bulkAll_eq, bulkAll_eq]; omega
  agg := fun a => by rw [Rows.uptoBulk, bulkAll_eq]; omega
theorem bulkSmall {H : Type} (ds : List (DataW H)) (h : Rows.uptoSmall H ds = true) : (ds.map Rows.uptoBulk).sum ≤ 1048576 := by
  have h : Rows.uptoBulkAll ds ≤ 1048576 := of_decide_eq_true h
  rw [bulkAll_eq] at h
  exact h
theorem sum_mem {l : List Nat} {n : Nat} (h : n ∈ l) : n ≤ l.sum := by
  induction l with
  | nil => cases h
  | cons x r ih =>
    rw [List.sum_cons]
    cases List.mem_cons.1 h with
    | inl e => omega
    | inr e => have := ih e; omega
theorem shortOf {l : List Z16.Inl} {m : Nat} (h : bulk t22 l ≤ m) (hm : m ≤ 2000000) : shortL l := fun x hx => by
  have h1 : bulk t68 x ≤ bulk t22 l := by
    show _ ≤ (l.map (bulk t68)).sum + 1
    have := sum_mem (List.mem_map.2 ⟨x, hx, rfl⟩ : bulk t68 x ∈ l.map (bulk t68))
    omega
  have h2 : (txt x).size ≤ bulk t68 x := by
    obtain ⟨a, b, c, d, u⟩ := x
    simp only [bulk, txt]
    omega
  exact Nat.le_trans h2 (Nat.le_trans h1 (Nat.le_trans h hm))
theorem preOf (y : cCreaseUpdates.arg.den) (h : wf cCreaseUpdates.arg y) (hb : bulk cCreaseUpdates.arg y ≤ 1048576) : cCreaseUpdates.pre y := by
  obtain ⟨⟨n, l, hid, u1⟩, ⟨at1, rem, add, hid2, u2⟩, u3⟩ := y
  refine ⟨h.1.2.1.1, h.1.2.2.1.1, h.2.1.2.1.1, h.2.1.2.2.1.1, h.2.1.2.2.2.1.1, shortOf (m := 1048576) ?_ (by omega)⟩
  have e : bulk cCreaseUpdates.arg ((n, l, hid, u1), (at1, rem, add, hid2, u2), u3) = bulk t25 (n, l, hid, u1) + (bulk t46 at1 + (bulk t40 rem + (bulk t22 add + (bulk t23 hid2 + 0))) + 0) := rfl
  rw [e] at hb
  show bulk t22 add ≤ 1048576
  omega
theorem readsU (os : Os) {H : Type} (enc : TypeId × Value → H) : ∃ places, DataW.whole enc Tryz.prog ((World.doorLaid Tryz.prog 400 os).forCall (fun _ _ => 0) ⟨#[], #[.agg #[.int .i64 0, .slice none 0 0, .slice none 0 0], .agg #[.int .i64 0, .int .i64 0, .slice none 0 0, .slice none 0 0, .slice none 0 0]], []⟩).memory Tryz.f7.params.toList Rows.creaseUpdatesSpec.vars false #[Value.agg #[.int .i64 0, .slice none 0 0, .slice none 0 0], .agg #[.int .i64 0, .int .i64 0, .slice none 0 0, .slice none 0 0, .slice none 0 0]].toList 8 = some ([.agg [.lit (.int .i64 0), .nil, .nil], .agg [.agg [.lit (.int .i64 0), .lit (.int .i64 0)], .nil, .nil, .nil]], [], places) :=
  ⟨[], by kernel_rfl⟩
set_option maxRecDepth 100000 in
theorem creaseUpdatesLifted (os : Os) (started : os.Started) (H : Type) (enc : TypeId × Value → H) (F : Stop.Interp) :
    ReturnsInHanded {} Tryz.checked os 7 .any ((condSpec Rows.creaseUpdatesSpec Rows.uptoSmall).preRow enc Tryz.prog Tryz.f7 [] false laid1) (((condSpec Rows.creaseUpdatesSpec Rows.uptoSmall).at F).post enc Tryz.prog Tryz.f7 false true false false) := by
  obtain ⟨places, hx⟩ := readsU os enc
  exact law_lifted_upto (C := Tryz.checked) (tb := 4) (A := cCreaseUpdates.arg) (laid := laid1) (β := Rows.uptoBulk) (m := 1048576) bulkOk bulkSmall own started (by kernel_rfl) Tryz.func7
    (witness_row_shaped (World.doorLaid Tryz.prog 400 os) _ rfl (World.shaped_of_RefB (by kernel_rfl) (by kernel_rfl)) (by kernel_rfl)
      (OpenSpec.preRow_of_cond 8 hx (by kernel_rfl) (fun k hk => by cases hk; kernel_rfl) (by kernel_rfl) (door_met os _)))
    (by kernel_rfl) laidOut rfl rfl (fun ds h => by
      match ds, h with
      | [d1, d2], _ => rfl) (fun W h => glob_of h) s7 preOf
theorem creaseUpdatesOver : Rows.CreaseUpdatesUptoSaid :=
  OpenClaim.holds_of_cond 7 Tryz.f7 rfl rfl rfl rfl rfl rfl rfl ⟨rfl, rfl, rfl, rfl, rfl⟩ rfl rfl rfl rfl rfl (by kernel_rfl) Tryz.func7 (by kernel_rfl)
    (of_decide_eq_true (by kernel_rfl)) (by unfold Func.isWrapper; first | (rw [if_pos (by decide +kernel)]; kernel_rfl) | (rw [if_neg (by decide +kernel)]; exact ⟨rfl, rfl⟩))
    (fun os started H enc _ F => by rw [OpenClaim.pre_eq_preRow]; exact creaseUpdatesLifted os started H enc F)
theorem creaseUpdatesProved : Rows.CreaseUpdatesUptoCardSaid :=
  Claim7.holds_tied_plain_at .later [] _ _ _ _
    creaseUpdatesOver (fun _ h => by cases h) (by kernel_rfl) (fun _ h => by cases h) creaseUpdatesUpto_row_tie rfl ⟨rfl, rfl⟩ (by kernel_rfl) rfl
    (fun f fn hf hfn => by
      obtain rfl : f = 7 := Option.some.inj ((show Tryz.prog.funcNamed "bodkin/bodkinlaw16.CreaseUpdates" = some 7 by kernel_rfl).symm.trans hf) |>.symm
      obtain rfl : fn = Tryz.f7 := (Option.some.inj (Tryz.func7.symm.trans hfn)).symm
      exact ⟨by kernel_rfl, fun j t ht => by
        rw [Tryz.params7] at ht
        have hm : t ∈ [25, 54] := by simpa using Array.mem_of_getElem? ht
        have hall : ([25, 54].all fun u => !Tryz.prog.wantsStandIn u) = true := by kernel_rfl
        exact (show Tryz.prog.wantsStandIn t = false by simpa using List.all_eq_true.1 hall t hm)⟩)
    (by kernel_rfl)
#print axioms creaseUpdatesProved
end Go.Proofs.YtckeadbpimhimaaGreatDoor
