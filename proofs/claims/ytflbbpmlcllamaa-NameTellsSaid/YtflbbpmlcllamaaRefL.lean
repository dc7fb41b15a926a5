/- The walks of the document's Look and Looks. -/
import Derived.Test.YtflbbpmlcllamaaRefN
import Derived.Deep.RegionWith
namespace Go.Proofs.Ytflbbpmlcllamaa
open Go.RowKit Go.Lib Go.Maps

theorem fR_none : ∀ (L : List (Int × Int)) (r : Int), (∀ p ∈ L, p.1 ≠ r) → fR L r = none
  | [], _, _ => rfl
  | p :: L, r, h => by
    unfold fR
    rw [if_neg (fun e => h p (List.mem_cons_self ..) (by first | exact e | exact e.symm))]
    exact fR_none L r (fun q hq => h q (List.mem_cons_of_mem _ hq))
def lookKeys : List Int := [945, 1072, 1074, 1089, 1077, 953, 954, 1082, 1084, 951, 1085, 959, 1086, 48, 961, 1088, 964, 1090, 965, 957, 967, 1093, 947, 1091, 49]
theorem keys_all : ∀ p ∈ (pairsTo 15).reverse, p.1 ∈ lookKeys := by decide +kernel
theorem lookV_none {r : Int} (h : ∀ k ∈ lookKeys, r ≠ k) : lookV r = r := by
  unfold lookV lookF
  rw [show fOf (pairsTo 15) r = none from fR_none _ r (fun p hp e => h p.1 (keys_all p hp) e.symm)]
  rfl
theorem look_945 (w : World) : Calls Try.prog 16 #[.int .i32 945] w fun e w' => e = .returned (.int .i32 97) ∧ w = w' := by
  go_enter Try.func16, Try.ntmps16
  go_wp2
  go_ret
  exact ⟨rfl, rfl⟩
theorem lv_945 : lookV 945 = 97 := by decide +kernel
theorem look_1072 (w : World) : Calls Try.prog 16 #[.int .i32 1072] w fun e w' => e = .returned (.int .i32 97) ∧ w = w' := by
  go_enter Try.func16, Try.ntmps16
  go_wp2
  go_ret
  exact ⟨rfl, rfl⟩
theorem lv_1072 : lookV 1072 = 97 := by decide +kernel
theorem look_1074 (w : World) : Calls Try.prog 16 #[.int .i32 1074] w fun e w' => e = .returned (.int .i32 98) ∧ w = w' := by
  go_enter Try.func16, Try.ntmps16
  go_wp2
  go_ret
  exact ⟨rfl, rfl⟩
theorem lv_1074 : lookV 1074 = 98 := by decide +kernel
theorem look_1089 (w : World) : Calls Try.prog 16 #[.int .i32 1089] w fun e w' => e = .returned (.int .i32 99) ∧ w = w' := by
  go_enter Try.func16, Try.ntmps16
  go_wp2
  go_ret
  exact ⟨rfl, rfl⟩
theorem lv_1089 : lookV 1089 = 99 := by decide +kernel
theorem look_1077 (w : World) : Calls Try.prog 16 #[.int .i32 1077] w fun e w' => e = .returned (.int .i32 101) ∧ w = w' := by
  go_enter Try.func16, Try.ntmps16
  go_wp2
  go_ret
  exact ⟨rfl, rfl⟩
theorem lv_1077 : lookV 1077 = 101 := by decide +kernel
theorem look_953 (w : World) : Calls Try.prog 16 #[.int .i32 953] w fun e w' => e = .returned (.int .i32 105) ∧ w = w' := by
  go_enter Try.func16, Try.ntmps16
  go_wp2
  go_ret
  exact ⟨rfl, rfl⟩
theorem lv_953 : lookV 953 = 105 := by decide +kernel
theorem look_954 (w : World) : Calls Try.prog 16 #[.int .i32 954] w fun e w' => e = .returned (.int .i32 107) ∧ w = w' := by
  go_enter Try.func16, Try.ntmps16
  go_wp2
  go_ret
  exact ⟨rfl, rfl⟩
theorem lv_954 : lookV 954 = 107 := by decide +kernel
theorem look_1082 (w : World) : Calls Try.prog 16 #[.int .i32 1082] w fun e w' => e = .returned (.int .i32 107) ∧ w = w' := by
  go_enter Try.func16, Try.ntmps16
  go_wp2
  go_ret
  exact ⟨rfl, rfl⟩
theorem lv_1082 : lookV 1082 = 107 := by decide +kernel
theorem look_1084 (w : World) : Calls Try.prog 16 #[.int .i32 1084] w fun e w' => e = .returned (.int .i32 109) ∧ w = w' := by
  go_enter Try.func16, Try.ntmps16
  go_wp2
  go_ret
  exact ⟨rfl, rfl⟩
theorem lv_1084 : lookV 1084 = 109 := by decide +kernel
theorem look_951 (w : World) : Calls Try.prog 16 #[.int .i32 951] w fun e w' => e = .returned (.int .i32 110) ∧ w = w' := by
  go_enter Try.func16, Try.ntmps16
  go_wp2
  go_ret
  exact ⟨rfl, rfl⟩
theorem lv_951 : lookV 951 = 110 := by decide +kernel
theorem look_1085 (w : World) : Calls Try.prog 16 #[.int .i32 1085] w fun e w' => e = .returned (.int .i32 110) ∧ w = w' := by
  go_enter Try.func16, Try.ntmps16
  go_wp2
  go_ret
  exact ⟨rfl, rfl⟩
theorem lv_1085 : lookV 1085 = 110 := by decide +kernel
theorem look_959 (w : World) : Calls Try.prog 16 #[.int .i32 959] w fun e w' => e = .returned (.int .i32 111) ∧ w = w' := by
  go_enter Try.func16, Try.ntmps16
  go_wp2
  go_ret
  exact ⟨rfl, rfl⟩
theorem lv_959 : lookV 959 = 111 := by decide +kernel
theorem look_1086 (w : World) : Calls Try.prog 16 #[.int .i32 1086] w fun e w' => e = .returned (.int .i32 111) ∧ w = w' := by
  go_enter Try.func16, Try.ntmps16
  go_wp2
  go_ret
  exact ⟨rfl, rfl⟩
theorem lv_1086 : lookV 1086 = 111 := by decide +kernel
theorem look_48 (w : World) : Calls Try.prog 16 #[.int .i32 48] w fun e w' => e = .returned (.int .i32 111) ∧ w = w' := by
  go_enter Try.func16, Try.ntmps16
  go_wp2
  go_ret
  exact ⟨rfl, rfl⟩
theorem lv_48 : lookV 48 = 111 := by decide +kernel
theorem look_961 (w : World) : Calls Try.prog 16 #[.int .i32 961] w fun e w' => e = .returned (.int .i32 112) ∧ w = w' := by
  go_enter Try.func16, Try.ntmps16
  go_wp2
  go_ret
  exact ⟨rfl, rfl⟩
theorem lv_961 : lookV 961 = 112 := by decide +kernel
theorem look_1088 (w : World) : Calls Try.prog 16 #[.int .i32 1088] w fun e w' => e = .returned (.int .i32 112) ∧ w = w' := by
  go_enter Try.func16, Try.ntmps16
  go_wp2
  go_ret
  exact ⟨rfl, rfl⟩
theorem lv_1088 : lookV 1088 = 112 := by decide +kernel
theorem look_964 (w : World) : Calls Try.prog 16 #[.int .i32 964] w fun e w' => e = .returned (.int .i32 116) ∧ w = w' := by
  go_enter Try.func16, Try.ntmps16
  go_wp2
  go_ret
  exact ⟨rfl, rfl⟩
theorem lv_964 : lookV 964 = 116 := by decide +kernel
theorem look_1090 (w : World) : Calls Try.prog 16 #[.int .i32 1090] w fun e w' => e = .returned (.int .i32 116) ∧ w = w' := by
  go_enter Try.func16, Try.ntmps16
  go_wp2
  go_ret
  exact ⟨rfl, rfl⟩
theorem lv_1090 : lookV 1090 = 116 := by decide +kernel
theorem look_965 (w : World) : Calls Try.prog 16 #[.int .i32 965] w fun e w' => e = .returned (.int .i32 117) ∧ w = w' := by
  go_enter Try.func16, Try.ntmps16
  go_wp2
  go_ret
  exact ⟨rfl, rfl⟩
theorem lv_965 : lookV 965 = 117 := by decide +kernel
theorem look_957 (w : World) : Calls Try.prog 16 #[.int .i32 957] w fun e w' => e = .returned (.int .i32 118) ∧ w = w' := by
  go_enter Try.func16, Try.ntmps16
  go_wp2
  go_ret
  exact ⟨rfl, rfl⟩
theorem lv_957 : lookV 957 = 118 := by decide +kernel
theorem look_967 (w : World) : Calls Try.prog 16 #[.int .i32 967] w fun e w' => e = .returned (.int .i32 120) ∧ w = w' := by
  go_enter Try.func16, Try.ntmps16
  go_wp2
  go_ret
  exact ⟨rfl, rfl⟩
theorem lv_967 : lookV 967 = 120 := by decide +kernel
theorem look_1093 (w : World) : Calls Try.prog 16 #[.int .i32 1093] w fun e w' => e = .returned (.int .i32 120) ∧ w = w' := by
  go_enter Try.func16, Try.ntmps16
  go_wp2
  go_ret
  exact ⟨rfl, rfl⟩
theorem lv_1093 : lookV 1093 = 120 := by decide +kernel
theorem look_947 (w : World) : Calls Try.prog 16 #[.int .i32 947] w fun e w' => e = .returned (.int .i32 121) ∧ w = w' := by
  go_enter Try.func16, Try.ntmps16
  go_wp2
  go_ret
  exact ⟨rfl, rfl⟩
theorem lv_947 : lookV 947 = 121 := by decide +kernel
theorem look_1091 (w : World) : Calls Try.prog 16 #[.int .i32 1091] w fun e w' => e = .returned (.int .i32 121) ∧ w = w' := by
  go_enter Try.func16, Try.ntmps16
  go_wp2
  go_ret
  exact ⟨rfl, rfl⟩
theorem lv_1091 : lookV 1091 = 121 := by decide +kernel
theorem look_49 (w : World) : Calls Try.prog 16 #[.int .i32 49] w fun e w' => e = .returned (.int .i32 108) ∧ w = w' := by
  go_enter Try.func16, Try.ntmps16
  go_wp2
  go_ret
  exact ⟨rfl, rfl⟩
theorem lv_49 : lookV 49 = 108 := by decide +kernel
theorem look_else (r : Int) (w : World) (h945 : (r == 945) = false) (h1072 : (r == 1072) = false) (h1074 : (r == 1074) = false) (h1089 : (r == 1089) = false) (h1077 : (r == 1077) = false) (h953 : (r == 953) = false) (h954 : (r == 954) = false) (h1082 : (r == 1082) = false) (h1084 : (r == 1084) = false) (h951 : (r == 951) = false) (h1085 : (r == 1085) = false) (h959 : (r == 959) = false) (h1086 : (r == 1086) = false) (h48 : (r == 48) = false) (h961 : (r == 961) = false) (h1088 : (r == 1088) = false) (h964 : (r == 964) = false) (h1090 : (r == 1090) = false) (h965 : (r == 965) = false) (h957 : (r == 957) = false) (h967 : (r == 967) = false) (h1093 : (r == 1093) = false) (h947 : (r == 947) = false) (h1091 : (r == 1091) = false) (h49 : (r == 49) = false) : Calls Try.prog 16 #[.int .i32 r] w fun e w' => e = .returned (.int .i32 r) ∧ w = w' := by
  go_enter Try.func16, Try.ntmps16
  go_wp2
  go_ret
  exact ⟨rfl, rfl⟩
theorem rLook_any (r : Int) (w : World) : Calls Try.prog 16 #[.int .i32 r] w fun e w' => e = .returned (.int .i32 (lookV r)) ∧ w = w' := by
  by_cases h945 : r = 945
  · subst h945; rw [lv_945]; exact look_945 w
  by_cases h1072 : r = 1072
  · subst h1072; rw [lv_1072]; exact look_1072 w
  by_cases h1074 : r = 1074
  · subst h1074; rw [lv_1074]; exact look_1074 w
  by_cases h1089 : r = 1089
  · subst h1089; rw [lv_1089]; exact look_1089 w
  by_cases h1077 : r = 1077
  · subst h1077; rw [lv_1077]; exact look_1077 w
  by_cases h953 : r = 953
  · subst h953; rw [lv_953]; exact look_953 w
  by_cases h954 : r = 954
  · subst h954; rw [lv_954]; exact look_954 w
  by_cases h1082 : r = 1082
  · subst h1082; rw [lv_1082]; exact look_1082 w
  by_cases h1084 : r = 1084
  · subst h1084; rw [lv_1084]; exact look_1084 w
  by_cases h951 : r = 951
  · subst h951; rw [lv_951]; exact look_951 w
  by_cases h1085 : r = 1085
  · subst h1085; rw [lv_1085]; exact look_1085 w
  by_cases h959 : r = 959
  · subst h959; rw [lv_959]; exact look_959 w
  by_cases h1086 : r = 1086
  · subst h1086; rw [lv_1086]; exact look_1086 w
  by_cases h48 : r = 48
  · subst h48; rw [lv_48]; exact look_48 w
  by_cases h961 : r = 961
  · subst h961; rw [lv_961]; exact look_961 w
  by_cases h1088 : r = 1088
  · subst h1088; rw [lv_1088]; exact look_1088 w
  by_cases h964 : r = 964
  · subst h964; rw [lv_964]; exact look_964 w
  by_cases h1090 : r = 1090
  · subst h1090; rw [lv_1090]; exact look_1090 w
  by_cases h965 : r = 965
  · subst h965; rw [lv_965]; exact look_965 w
  by_cases h957 : r = 957
  · subst h957; rw [lv_957]; exact look_957 w
  by_cases h967 : r = 967
  · subst h967; rw [lv_967]; exact look_967 w
  by_cases h1093 : r = 1093
  · subst h1093; rw [lv_1093]; exact look_1093 w
  by_cases h947 : r = 947
  · subst h947; rw [lv_947]; exact look_947 w
  by_cases h1091 : r = 1091
  · subst h1091; rw [lv_1091]; exact look_1091 w
  by_cases h49 : r = 49
  · subst h49; rw [lv_49]; exact look_49 w
  rw [lookV_none (by
    intro k hk
    simp only [lookKeys, List.mem_cons, List.not_mem_nil, or_false] at hk
    rcases hk with rfl | rfl | rfl | rfl | rfl | rfl | rfl | rfl | rfl | rfl | rfl | rfl | rfl | rfl | rfl | rfl | rfl | rfl | rfl | rfl | rfl | rfl | rfl | rfl | rfl <;> assumption)]
  exact look_else r w (beq_eq_false_iff_ne.2 h945) (beq_eq_false_iff_ne.2 h1072) (beq_eq_false_iff_ne.2 h1074) (beq_eq_false_iff_ne.2 h1089) (beq_eq_false_iff_ne.2 h1077) (beq_eq_false_iff_ne.2 h953) (beq_eq_false_iff_ne.2 h954) (beq_eq_false_iff_ne.2 h1082) (beq_eq_false_iff_ne.2 h1084) (beq_eq_false_iff_ne.2 h951) (beq_eq_false_iff_ne.2 h1085) (beq_eq_false_iff_ne.2 h959) (beq_eq_false_iff_ne.2 h1086) (beq_eq_false_iff_ne.2 h48) (beq_eq_false_iff_ne.2 h961) (beq_eq_false_iff_ne.2 h1088) (beq_eq_false_iff_ne.2 h964) (beq_eq_false_iff_ne.2 h1090) (beq_eq_false_iff_ne.2 h965) (beq_eq_false_iff_ne.2 h957) (beq_eq_false_iff_ne.2 h967) (beq_eq_false_iff_ne.2 h1093) (beq_eq_false_iff_ne.2 h947) (beq_eq_false_iff_ne.2 h1091) (beq_eq_false_iff_ne.2 h49)

set_option maxHeartbeats 2000000 in
theorem rLooks_any (s : ByteArray) (w : World) (hs : s.size ≤ 1024) : Calls Try.prog 22 #[.string s] w fun e w' => ∃ v, e = .returned v ∧ Runes w' v (lookL s) ∧ Below w.heap.size w w' := by
  have hlen : (lookL s).length = (runes s).length := by unfold lookL; rw [List.length_map]
  have hg : ∀ i, i < (runes s).length → (lookL s).getD i 0 = lookV ((runes s).getD i 0) := by
    intro i hi
    unfold lookL
    simp [List.getD_eq_getElem?_getD, List.getElem?_map, List.getElem?_eq_getElem hi]
  have hrl := runes_length s
  have HG := Lib.hid hg
  clear hg
  generalize lookL s = ys at *
  go_enter Try.func22, Try.ntmps22
  go_wp2_with fail
  refine (rRunes_any s _ hs).mono ?_
  rintro e w1 ⟨v, rfl, hrow, hB⟩
  have hlt0 := hrow.lt
  have hrow0 := hrow
  generalize runes s = xs at *
  obtain ⟨a, cap, rfl, _, hc⟩ := Runes.of_owns hrow (by omega)
  have HY := Lib.hid hlen
  by_cases h0 : xs.length = 0
  · have HY0 := Lib.hid (HY.out.trans h0)
    rw [h0]
    go_wp2
    go_loop [4] (fun i => i = .int .i64 0) (fun _ => 0)
    case atStart => rfl
    case round =>
      subst hrel
      go_wp2
      go_ret
      exact ⟨_, rfl, ⟨a, cap, by rw [HY0.out]; rfl, by rw [HY0.out]; omega, fun h => by rw [HY0.out] at h; omega⟩, hB⟩
  · obtain ⟨b, rfl, hc0⟩ := hc (by omega)
    have hb := (hlt0 b rfl).1
    have hfz : ∀ i, w1.frozen? ⟨b, i, none⟩ = false := fun i => hrow0.frozenAt i
    clear hrow hlt0 hrow0
    go_wp2
    go_loopw [4] (fun o wr => ∃ k : Nat, k ≤ xs.length ∧ o = .int .i64 k ∧ (∀ i, i < xs.length → wr.cell? ⟨b, i, none⟩ = some (.int .i32 (if i < k then ys.getD i 0 else xs.getD i 0))) ∧ (∀ i, wr.frozen? ⟨b, i, none⟩ = false) ∧ Below w.heap.size w wr) (fun o _ => xs.length - (intOf o).toNat)
    case atStart => exact ⟨0, by omega, rfl, fun i hi => by rw [if_neg (by omega)]; exact hc0 i hi, hfz, hB⟩
    case round =>
      clear hc0 hc hfz hB
      obtain ⟨k, hk, rfl, hc, hfz, hB⟩ := hrel
      by_cases hlt : k < xs.length
      · have hck := hc k hlt
        rw [if_neg (by omega)] at hck
        have hfk := hfz k
        have HF := Lib.hid hfz
        clear hfz
        have hyk := HG.out k hlt
        have HC := Lib.hid hc
        have HYK := Lib.hid hyk
        clear hc hyk
        generalize xs.getD k 0 = r at *
        go_wp2_with (go_at_call 16; refine (rLook_any r _).mono ?_; rintro e w2 ⟨rfl, rfl⟩)
        exact ⟨⟨k + 1, by omega, by go_num, fun i hi => by
          by_cases e : i = k
          · subst e
            rw [World.cell?_setCell_same _ _ _ hck, if_pos (by omega), HYK.out]
          · rw [World.cell?_setCell_other _ _ _ _ (by intro h; injection h with _ h2; exact e h2.symm), HC.out i hi]
            by_cases h1 : i < k
            · rw [if_pos h1, if_pos (by omega)]
            · rw [if_neg h1, if_neg (by omega)], fun i => by simpa using HF.out i, hB.trans (((Only.refl (fun j => j = b) wr).setCell (p := ⟨b, k, none⟩) rfl _).below hB.size (fun j e => by rw [e]; exact hb))⟩, by simp [intOf]; omega⟩
      · have HC := Lib.hid hc
        clear hc
        go_wp2
        go_ret
        exact ⟨_, rfl, ⟨some ⟨b, 0, none⟩, cap, by rw [HY.out]; rfl, by rw [HY.out]; omega, fun _ => ⟨b, rfl, fun i hi => by rw [HY.out] at hi; rw [HC.out i hi, if_pos (by omega)]⟩⟩, hB⟩
end Go.Proofs.Ytflbbpmlcllamaa
