/- The walk of ledger.Run. -/
import Derived.Test.YtliakamlgjoabaaLRest
namespace Go.Proofs.Ytliakamlgjoabaa
open Go.RowKit

/-- Actions in a row of memory. -/
structure ActsAt (w : World) (B : Nat) (av : Option Addr) (l : List Act') : Prop where
  r : 0 < l.length → ∃ b o, av = some ⟨b, o, none⟩ ∧ b < B ∧ ∀ i a, l[i]? = some a →
    w.cell? ⟨b, o + i * 7, none⟩ = some (.int .u8 a.kind) ∧ w.cell? ⟨b, o + i * 7 + 1, none⟩ = some (.int .i64 a.c) ∧ w.cell? ⟨b, o + i * 7 + 2, none⟩ = some (.int .i64 a.e) ∧ w.cell? ⟨b, o + i * 7 + 3, none⟩ = some (.int .i64 a.q) ∧
    w.cell? ⟨b, o + i * 7 + 4, none⟩ = some (.int .i64 a.org) ∧ w.cell? ⟨b, o + i * 7 + 5, none⟩ = some (.bool a.yes) ∧ w.cell? ⟨b, o + i * 7 + 6, none⟩ = some (.int .u8 a.orgs)
  wf : ∀ a ∈ l, ActWf a

def runR (bad : Int) : List Row → Nat → List Act' → Option (List Row) × Nat × Int
  | rs, k, [] => (some rs, k, 0)
  | rs, k, a :: l => if mayV bad rs a = 0 then runR bad (putR rs a) (k + 1) l else (none, k, mayV bad rs a)

def RunPost (bad : Int) (ro : Option (List Row) × Nat × Int) (w : World) (e : Ending) (w' : World) : Prop :=
  ∃ gv, e = .returned (.tuple #[gv, .int .i64 (ro.2.1 : Int), .int .i64 ro.2.2]) ∧ Below w.heap.size w w' ∧
    match ro.1 with | some rs => ∃ gb mb rv, gv = .pointer (some ⟨gb, 0, none⟩) ∧ GAt w' w.heap.size gb mb rv bad rs | none => gv = .pointer none

theorem apply_is (v : Int) (base gb mb : Nat) (rv : Value) (bad : Int) (rs : List Row) (a : Act') (hv : mayV bad rs a = v) (w : World) (h : GAt w base gb mb rv bad rs) (hbase : base ≤ w.heap.size) (hroom : rs.length < 1000) (ha : ActWf a) :
    Calls Try.prog 14 #[.pointer (some ⟨gb, 0, none⟩), actV a] w (ApPost v w base gb mb rv bad (applyR bad rs a)) := hv ▸ apply_any base gb mb rv bad rs a w h hbase hroom ha

theorem putR_len (rs : List Row) (a : Act') : (putR rs a).length ≤ rs.length + 1 := by
  unfold putR
  split <;> simp
theorem applyR_len (bad : Int) (rs : List Row) (a : Act') : (applyR bad rs a).length ≤ rs.length + 1 := by
  unfold applyR
  split
  · exact putR_len rs a
  · omega

/-- What Apply turns lies behind the base. -/
theorem GAt.below {w w' w0 : World} {B base gb mb : Nat} {rv : Value} {bad : Int} {rs : List Row} (h : GAt w base gb mb rv bad rs) (hB : Below B w0 w) (hz : B ≤ w.heap.size) (hbase : B ≤ base) (ho : Only (fun j => j = gb ∨ j = mb ∨ rv.ownBlock = some j) w w') : Below B w0 w' := by
  refine hB.trans (ho.below hz (fun k e => ?_))
  have h1 := h.low.1
  have h2 := h.low.2
  rcases e with e | e | e
  · omega
  · omega
  · have := (h.rows.lt k e).1; omega

theorem GAt.out {w : World} {base gb mb : Nat} {rv : Value} {bad : Int} {rs : List Row} (h : GAt w base gb mb rv bad rs) {x : Nat} (hx : x < base) : ¬ (x = gb ∨ x = mb ∨ rv.ownBlock = some x) := by
  have h1 := h.low.1
  have h2 := h.low.2
  rintro (e | e | e)
  · omega
  · omega
  · have := (h.rows.lt x e).1; omega

set_option maxRecDepth 100000 in
set_option maxHeartbeats 4000000 in
theorem run_any (bad : Int) (av : Option Addr) (l : List Act') (cap : Nat) (w : World) (hl : ActsAt w w.heap.size av l) (hlen : l.length ≤ 900) :
    Calls Try.prog 8 #[.int .u8 bad, .slice av l.length cap] w (RunPost bad (runR bad [] 0 l) w) := by
  obtain ⟨ro, hro⟩ : ∃ ro, runR bad [] 0 l = ro := ⟨_, rfl⟩
  rw [hro]
  have HRO := Lib.hid hro
  clear hro
  go_enter Try.func8, Try.ntmps8
  go_wp2_with (go_at_call 13; refine (newL_any bad _).mono ?_; rintro e w0 ⟨gb, mb, rfl, hG0, hB0⟩)
  go_loopw [4, 14] (fun v4 v14 wr => ∃ (j : Nat) (rv : Value) (rs : List Row), j ≤ l.length ∧ v4 = .pointer (some ⟨gb, 0, none⟩) ∧ v14 = .int .i64 j ∧ GAt wr w.heap.size gb mb rv bad rs ∧ rs.length ≤ j ∧ runR bad rs j (l.drop j) = ro ∧ Below w.heap.size w wr) (fun _ v14 _ => l.length - (intOf v14).toNat)
  case atStart => exact ⟨0, _, [], by omega, rfl, rfl, hG0, by simp, HRO.out, hB0⟩
  case round =>
    clear hG0 hB0
    obtain ⟨j, rv, rs, hj, rfl, rfl, hG, hrl, hrun, hB⟩ := hrel
    by_cases hlt : j < l.length
    · obtain ⟨b, o, rfl, hbb, hc⟩ := hl.r (by omega)
      obtain ⟨a, ha⟩ : ∃ a, l[j]? = some a := ⟨_, List.getElem?_eq_getElem hlt⟩
      have haw := Lib.hid (hl.wf a (List.mem_of_getElem? ha))
      have hd : l.drop j = a :: l.drop (j + 1) := by
        rw [List.drop_eq_getElem_cons hlt]
        congr 1
        rw [List.getElem?_eq_getElem hlt] at ha
        exact Option.some.inj ha
      rw [hd, runR] at hrun
      obtain ⟨x0, x1, x2, x3, x4, x5, x6⟩ := hc j a ha
      replace x0 := (hB.cell (p := ⟨b, o + j * 7, none⟩) hbb).trans x0
      replace x1 := (hB.cell (p := ⟨b, o + j * 7 + 1, none⟩) hbb).trans x1
      replace x2 := (hB.cell (p := ⟨b, o + j * 7 + 2, none⟩) hbb).trans x2
      replace x3 := (hB.cell (p := ⟨b, o + j * 7 + 3, none⟩) hbb).trans x3
      replace x4 := (hB.cell (p := ⟨b, o + j * 7 + 4, none⟩) hbb).trans x4
      replace x5 := (hB.cell (p := ⟨b, o + j * 7 + 5, none⟩) hbb).trans x5
      replace x6 := (hB.cell (p := ⟨b, o + j * 7 + 6, none⟩) hbb).trans x6
      clear hc hd ha
      obtain ⟨kind, c, e, q, org, ayes, aorgs⟩ := a
      dsimp only at x0 x1 x2 x3 x4 x5 x6
      have hsz := hB.size
      have oX := (Only.refl (fun _ : Nat => False) wr).alloc (.cells #[.int .u8 kind, .int .i64 c, .int .i64 e, .int .i64 q, .int .i64 org, .bool ayes, .int .u8 aorgs] 35)
      have hBX := hB.alloc hsz (.cells #[.int .u8 kind, .int .i64 c, .int .i64 e, .int .i64 q, .int .i64 org, .bool ayes, .int .u8 aorgs] 35)
      have hGX := hG.kept oX id id (fun _ _ => id)
      obtain ⟨v, hv⟩ : ∃ v, mayV bad rs ⟨kind, c, e, q, org, ayes, aorgs⟩ = v := ⟨_, rfl⟩
      rw [hv] at hrun
      have HV := Lib.hid hv
      by_cases hz : v = 0
      · subst hz
        rw [if_pos rfl] at hrun
        have hap : applyR bad rs ⟨kind, c, e, q, org, ayes, aorgs⟩ = putR rs ⟨kind, c, e, q, org, ayes, aorgs⟩ := by rw [applyR, if_pos hv]
        have HP := Lib.hid hap
        have HR := Lib.hid hrun
        clear hap hv hrun
        have hpl := putR_len rs ⟨kind, c, e, q, org, ayes, aorgs⟩
        go_wp2_with (go_at_call 14; refine (apply_is 0 w.heap.size gb mb rv bad rs ⟨kind, c, e, q, org, ayes, aorgs⟩ HV.out _ (by exact hGX) (by exact hBX.size) (by omega) haw.out).mono ?_; rintro r' wA ⟨rfl, ⟨rv', hGA⟩, hoA⟩)
        rw [HP.out] at hGA
        exact ⟨⟨j + 1, rv', _, by omega, rfl, by go_num, hGA, by omega, HR.out, hGX.below hBX hBX.size (Nat.le_refl _) hoA⟩, by simp [intOf]; omega⟩
      · rw [if_neg hz] at hrun
        have HR := Lib.hid hrun
        have hne : (v != 0) = true := by simpa using hz
        clear hv hrun hz
        go_wp2_with (go_at_call 14; refine (apply_is v w.heap.size gb mb rv bad rs ⟨kind, c, e, q, org, ayes, aorgs⟩ HV.out _ (by exact hGX) (by exact hBX.size) (by omega) haw.out).mono ?_; rintro r' wA ⟨rfl, _, hoA⟩)
        go_ret3
        have hR := HR.out
        subst hR
        exact ⟨_, rfl, hGX.below hBX hBX.size (Nat.le_refl _) hoA, rfl⟩
    · have hjl : j = l.length := by omega
      have HR := Lib.hid (show (some rs, j, (0 : Int)) = ro by rw [← hrun, List.drop_of_length_le (by omega)]; rfl)
      have HJ := Lib.hid hjl
      clear hjl hrun
      go_wp2
      go_ret3
      have hR := HR.out
      subst hR
      exact ⟨_, by rw [HJ.out]; rfl, hB, gb, mb, rv, rfl, hG⟩
end Go.Proofs.Ytliakamlgjoabaa
