/- The walk of WindowOnce: it answers true whatever comes. -/
import Derived.Test.YthlfmlmpkiigiaaAlive18
import Derived.Test.YthlfmlmpkiigiaaWinMath
import Derived.Maps.AppendAt
namespace Go.Proofs.Ythlfmlmpkiigiaa
open Go.RowKit

/-- The nonce that the law makes of a number, as the walk spells it. -/
theorem nOf_bd (z : Int) : 1 ≤ wrap64 (1 + wrap64 ((IntKind.u64.wrap z).tmod 65535)) ∧ wrap64 (1 + wrap64 ((IntKind.u64.wrap z).tmod 65535)) ≤ 65535 := by
  have h0 : 0 ≤ IntKind.u64.wrap z := wrap_u64_nonneg z
  rw [Int.tmod_eq_emod_of_nonneg h0]
  have h1 := Int.emod_nonneg (IntKind.u64.wrap z) (b := 65535) (by omega)
  have h2 := Int.emod_lt_of_pos (IntKind.u64.wrap z) (b := 65535) (by omega)
  rw [IntWalk.wrap64_in (IntKind.u64.wrap z % 65535) (by omega), IntWalk.wrap64_in _ (by omega)]
  omega

/-- Is n among the first j? -/
def hasN (took : List Int) (j : Nat) (n : Int) : Bool := decide (n ∈ took.take j)
theorem hasN_zero (took : List Int) (n : Int) : hasN took 0 n = false := by simp [hasN]
theorem hasN_succ (took : List Int) (j : Nat) (n : Int) (h : j < took.length) : hasN took (j + 1) n = (hasN took j n || took.getD j 0 == n) := by
  unfold hasN
  rw [List.take_succ_eq_append_getElem h, List.getD_eq_getElem?_getD, List.getElem?_eq_getElem h]
  simp only [List.mem_append, List.mem_singleton, Option.getD_some, Bool.decide_or]
  congr 1
  rw [Bool.eq_iff_iff]
  simp only [decide_eq_true_eq, beq_iff_eq]
  exact eq_comm
theorem hasN_all (took : List Int) (n : Int) : hasN took took.length n = decide (n ∈ took) := by simp [hasN]

theorem infoInt2 : (Try.prog.info? 3).map (fun i => (i.zero, i.size, i.bytes)) = some (some (.int .i64 0), 1, 8) := by kernel_rfl

set_option maxHeartbeats 1000000 in
theorem once_any (a0 : Option Addr) (len cap : Nat) (zs : List Int) (w : World) (hm : len ≤ maxLen)
    (hrow : 0 < len → ∃ b o, a0 = some ⟨b, o, none⟩ ∧ b < w.heap.size ∧ ∀ i, i < len → w.cell? ⟨b, o + i, none⟩ = some (.int .i64 (zs.getD i 0)))
    (hb : ∀ i, i < len → -9223372036854775808 ≤ zs.getD i 0 ∧ zs.getD i 0 ≤ 9223372036854775807) :
    Calls Try.prog 3 #[.slice a0 len cap] w fun e w' => e = .returned (.bool true) ∧ Below w.heap.size w w' := by
  unfold maxLen at hm
  obtain ⟨i0, hi, hz0, hz1, hz2⟩ := info_parts infoInt2
  by_cases hl : 300 < len
  · go_enter Try.func3, Try.ntmps3
    go_wp2_with (go_at_call 4; refine (alive_any _).mono ?_; rintro e w' ⟨rfl, hB⟩)
    go_ret
    exact ⟨rfl, hB⟩
  · have hl' : len ≤ 300 := by omega
    clear hl
    go_enter Try.func3, Try.ntmps3
    go_wp2_with (go_at_call 5; refine (new_any _).mono ?_; rintro e w' ⟨rfl, rfl⟩)
    go_loopw [4, 5] (fun v i wr => ∃ (k : Nat) (t g : Int) (took : List Int), k ≤ len ∧ i = .int .i64 k ∧ took.length ≤ k ∧ WInv t g took ∧ Win wr w.heap.size t g ∧ wr.ownsRow (w.heap.size + 1) 3 1 v took.length (took.map (Value.int .i64)) ∧ w.heap.size + 1 ≤ wr.heap.size ∧ Below w.heap.size w wr) (fun _ i _ => len - (intOf i).toNat)
    case atStart =>
      exact ⟨0, 0, 0, [], by omega, rfl, by simp, WInv.zero, Win.new w, World.ownsRow_nil _ _ _ _, by simp, (Below.refl _ _).alloc (Nat.le_refl _) _⟩
    case round =>
      obtain ⟨k, t, g, took, hk, rfl, htl, hinv, hw, hown, hsz, hB⟩ := hrel
      by_cases hlt : k < len
      · obtain ⟨b, o, rfl, hbl, hc⟩ := hrow (by omega)
        have hck := (hB.cell (p := ⟨b, o + k, none⟩) hbl).trans (hc k hlt)
        have hbk := hb k hlt
        clear hc hb hrow
        generalize zs.getD k 0 = z at hck hbk
        obtain ⟨a, cap', rfl⟩ := ownsRow_slice hown
        obtain ⟨a', cap'', e', _, hI⟩ := Ints.of_owns hown
        injection e' with e1 e2 e3
        subst e1 e3
        clear e2
        go_wp2
        have hn := nOf_bd z
        generalize wrap64 (1 + wrap64 ((IntKind.u64.wrap z).tmod 65535)) = n at hn
        obtain ⟨hn1, hn2⟩ := hn
        go_loop [7, 8] (fun d i => ∃ j : Nat, j ≤ took.length ∧ i = .int .i64 j ∧ d = .bool (hasN took j n)) (fun _ i => took.length - (intOf i).toNat)
        case atStart => exact ⟨0, by omega, rfl, by rw [hasN_zero]⟩
        case round =>
          obtain ⟨j, hj, rfl, rfl⟩ := hrel
          by_cases hjl : j < took.length
          · obtain ⟨b', o', rfl, hc'⟩ := hI (by omega)
            have hcj := hc' j hjl
            have HS := Lib.hid (hasN_succ took j n hjl)
            generalize took.getD j 0 = c at hcj HS
            clear hI hc'
            by_cases hh : hasN took j n = true
            · go_wp2
              go_round
              case rel => exact ⟨j + 1, by omega, by go_num, by rw [HS.out, hh]; rfl⟩
              case measure => simp [intOf]; omega
            · have hh' : hasN took j n = false := by simpa using hh
              clear hh
              go_wp2
              go_round
              case rel => exact ⟨j + 1, by omega, by go_num, by rw [HS.out, hh']; simp⟩
              case measure => simp [intOf]; omega
          · obtain rfl : j = took.length := by omega
            rw [hasN_all]
            clear hI hck
            have t0 := hinv.t0
            have t1 := hinv.t1
            have c0 := hw.cell0
            have hb3 : -9223372036854775808 ≤ n ∧ n ≤ 9223372036854775807 := by omega
            by_cases hfar : 64 ≤ t - n
            · have hv : mayV t g n = 180 := by rw [hinv.may hn1 hn2, if_pos hfar]
              have hinv' := hinv.not (n := n) (by rw [hv]; decide)
              have HV := Lib.hid hv
              clear hv
              have hd : decide (t < n) = false := by simp; omega
              go_wp2_with (first | (go_at_call 6; refine (top_any _ _ _ (by exact c0)).mono ?_; rintro e w' ⟨rfl, rfl⟩) | (go_at_call 7; refine (take_any _ t g n _ (by exact hw) t0 t1 hb3).mono ?_; rw [HV.out]; rintro e w' ⟨rfl, hw1, hg1⟩))
              exact ⟨⟨k + 1, _, _, took, by omega, by go_num, by omega, hinv', hw1, hown.kept hg1 (.inr (fun e => by have := (hown.lt _ e).1; omega)), Nat.le_trans hsz hg1.size, hB.grown hg1 hB.size (fun k e => by cases e; omega)⟩, by simp [intOf]; omega⟩
            · have hnear : t - n < 64 := by omega
              clear hfar
              by_cases hmem : n ∈ took
              · have hle := (hinv.most n hmem).2
                have hv : mayV t g n = 9 := by rw [hinv.may hn1 hn2, if_neg (by omega), if_pos hmem]
                have hinv' := hinv.not (n := n) (by rw [hv]; decide)
                have HV := Lib.hid hv
                clear hv
                have hd : decide (t < n) = false := by simp; omega
                have hdm : decide (n ∈ took) = true := by simpa using hmem
                rw [hdm]
                go_wp2_with (first | (go_at_call 6; refine (top_any _ _ _ (by exact c0)).mono ?_; rintro e w' ⟨rfl, rfl⟩) | (go_at_call 7; refine (take_any _ t g n _ (by exact hw) t0 t1 hb3).mono ?_; rw [HV.out]; rintro e w' ⟨rfl, hw1, hg1⟩))
                exact ⟨⟨k + 1, _, _, took, by omega, by go_num, by omega, hinv', hw1, hown.kept hg1 (.inr (fun e => by have := (hown.lt _ e).1; omega)), Nat.le_trans hsz hg1.size, hB.grown hg1 hB.size (fun k e => by cases e; omega)⟩, by simp [intOf]; omega⟩
              · have hv : mayV t g n = 0 := by rw [hinv.may hn1 hn2, if_neg (by omega), if_neg hmem]
                have hinv' := hinv.add hv
                have HV := Lib.hid hv
                clear hv
                have hdm : decide (n ∈ took) = false := by simpa using hmem
                rw [hdm]
                clear hdm hmem
                have hown1 : ∀ w', wr.grownBy w' (some w.heap.size) → w'.ownsRow (w.heap.size + 1) 3 1 (.slice a took.length cap') took.length (took.map (Value.int .i64)) := fun w' hg1 => hown.kept hg1 (.inr (fun e => by have := (hown.lt _ e).1; omega))
                by_cases hlt : t < n
                · have hd : decide (t < n) = true := by simpa using hlt
                  go_wp2_with (first | (go_at_call 6; refine (top_any _ _ _ (by exact c0)).mono ?_; rintro e w' ⟨rfl, rfl⟩) | (go_at_call 7; refine (take_any _ t g n _ (by exact hw) t0 t1 hb3).mono ?_; rw [HV.out]; rintro e w' ⟨rfl, hw1, hg1⟩; have hown1 := hown1 _ hg1; have hsz1 := Nat.le_trans hsz hg1.size; have hB1 := hB.grown hg1 hB.size (fun k e => by cases e; omega)) | (at_builtin; refine wpList_append_own _ rfl _ _ 22 rfl (w.heap.size + 1) 3 i0 (.int .i64 0) 1 8 Try.underlying22 hi hz0 hz1 hz2 rfl (by decide) _ _ _ rfl (hown1.alloc _) ⟨w'.heap.size, 0, none⟩ 1 1 [.int .i64 n] rfl rfl (cell_one_new _ _ _) (by simp [Value.oneCell']) (by unfold maxLen; omega) (by omega) (by simp; omega) ?_; intro v' w1 hown' hgrow _))
                  have hnob : (Value.slice a took.length cap').ownBlock ≠ some w.heap.size := fun e => by have := (hown1.lt _ e).1; omega
                  exact ⟨⟨k + 1, _, _, took ++ [n], by omega, by go_num, by simp; omega, hinv', (hw1.kept (World.grownBy_alloc w' _ none) (by simp)).kept hgrow (fun e => hnob e.symm), by simpa using hown', Nat.le_trans hsz1 (Nat.le_trans (by simp) hgrow.size), (hB1.alloc hB1.size _).grown hgrow (by simp; have := hB1.size; omega) (fun k e => by have := (hown1.lt _ e).1; omega)⟩, by simp [intOf]; omega⟩
                · have hd : decide (t < n) = false := by simpa using hlt
                  go_wp2_with (first | (go_at_call 6; refine (top_any _ _ _ (by exact c0)).mono ?_; rintro e w' ⟨rfl, rfl⟩) | (go_at_call 7; refine (take_any _ t g n _ (by exact hw) t0 t1 hb3).mono ?_; rw [HV.out]; rintro e w' ⟨rfl, hw1, hg1⟩; have hown1 := hown1 _ hg1; have hsz1 := Nat.le_trans hsz hg1.size; have hB1 := hB.grown hg1 hB.size (fun k e => by cases e; omega)) | (at_builtin; refine wpList_append_own _ rfl _ _ 22 rfl (w.heap.size + 1) 3 i0 (.int .i64 0) 1 8 Try.underlying22 hi hz0 hz1 hz2 rfl (by decide) _ _ _ rfl (hown1.alloc _) ⟨w'.heap.size, 0, none⟩ 1 1 [.int .i64 n] rfl rfl (cell_one_new _ _ _) (by simp [Value.oneCell']) (by unfold maxLen; omega) (by omega) (by simp; omega) ?_; intro v' w1 hown' hgrow _))
                  have hnob : (Value.slice a took.length cap').ownBlock ≠ some w.heap.size := fun e => by have := (hown1.lt _ e).1; omega
                  exact ⟨⟨k + 1, _, _, took ++ [n], by omega, by go_num, by simp; omega, hinv', (hw1.kept (World.grownBy_alloc w' _ none) (by simp)).kept hgrow (fun e => hnob e.symm), by simpa using hown', Nat.le_trans hsz1 (Nat.le_trans (by simp) hgrow.size), (hB1.alloc hB1.size _).grown hgrow (by simp; have := hB1.size; omega) (fun k e => by have := (hown1.lt _ e).1; omega)⟩, by simp [intOf]; omega⟩
      · go_wp2_with (go_at_call 4; refine (alive_any _).mono ?_; rintro e w' ⟨rfl, hB2⟩)
        go_ret
        exact ⟨rfl, hB.trans (hB2.mono hB.size)⟩
end Go.Proofs.Ythlfmlmpkiigiaa
