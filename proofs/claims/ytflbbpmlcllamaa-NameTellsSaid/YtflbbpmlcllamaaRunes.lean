/- The runes of a text, as the model's own decoder hands them; utf8.RuneCountInString; a letter's script. -/
import Derived.Test.YtflbbpmlcllamaaOnly
import Derived.Test.YtflbbpmlcllamaaProg
import Derived.WalkKit
import Derived.WalkSpells
import Derived.WalkLawsBesides
import Derived.Deep.QuietTactic
import Derived.BigQuiet
import Derived.Lib.Hide
import Derived.IntWalk
import Derived.Lib.RuneCount
import Derived.Lib.OthersKept
namespace Go.Proofs.Ytflbbpmlcllamaa
open Go.RowKit

def runesFrom (s : ByteArray) : Nat → Nat → List Int
  | 0, _ => []
  | f + 1, pos => if pos < s.size then ((Utf8.decode s pos).1 : Int) :: runesFrom s f (pos + (Utf8.decode s pos).2) else []
def runes (s : ByteArray) : List Int := runesFrom s s.size 0

theorem runesFrom_end (s : ByteArray) (f pos : Nat) (h : ¬ pos < s.size) : runesFrom s f pos = [] := by cases f <;> simp [runesFrom, h]
theorem runesFrom_length (s : ByteArray) : ∀ f pos, (runesFrom s f pos).length ≤ f
  | 0, _ => by simp [runesFrom]
  | f + 1, pos => by
    have ih := runesFrom_length s f (pos + (Utf8.decode s pos).2)
    unfold runesFrom
    split <;> simp <;> omega
theorem runes_length (s : ByteArray) : (runes s).length ≤ s.size := runesFrom_length s _ _
theorem runesFrom_step (s : ByteArray) (f pos : Nat) (h : pos < s.size) : runesFrom s (f + 1) pos = ((Utf8.decode s pos).1 : Int) :: runesFrom s f (pos + (Utf8.decode s pos).2) := by simp [runesFrom, h]
theorem rune_bd (s : ByteArray) : ∀ f pos, ∀ r ∈ runesFrom s f pos, 0 ≤ r ∧ r ≤ 2147483647
  | 0, _ => by simp [runesFrom]
  | f + 1, pos => by
    intro r hr
    unfold runesFrom at hr
    split at hr
    · rcases List.mem_cons.1 hr with h | h
      · have := decode_le s pos
        omega
      · exact rune_bd s f _ r h
    · simp at hr

/-- The model's own list of runes. -/
theorem conv_runes (s : ByteArray) : ∀ f pos (acc : Array Value), Conv.runesFrom s f pos acc = acc ++ ((runesFrom s f pos).map (Value.int .i32)).toArray
  | 0, _, acc => by simp [runesFrom, Conv.runesFrom]
  | f + 1, pos, acc => by
    unfold runesFrom Conv.runesFrom
    split
    · dsimp only
      rw [conv_runes s f]
      simp
    · simp

set_option maxHeartbeats 400000 in
theorem count_any (s : ByteArray) (w : World) (hs : s.size < 9223372036854775807) :
    Calls Try.prog 31 #[.string s] w fun e w' => e = .returned (.int .i64 (runes s).length) ∧ Below w.heap.size w w' := by
  go_enter Try.func31, Try.ntmps31
  go_wp2
  go_loopw [2] (fun n w' => ∃ (pos b acc : Nat), w' = w.iter s pos ∧ n = .int .i64 acc ∧ acc + (runesFrom s b pos).length = (runes s).length ∧ s.size ≤ pos + b ∧ acc ≤ pos) (fun _ w' => s.size - w'.iterPos w.heap.size)
  case atStart => exact ⟨0, s.size, 0, rfl, rfl, by simp [runes], by omega, Nat.le_refl _⟩
  case round =>
    obtain ⟨pos, b, acc, rfl, rfl, hc, hb, ha⟩ := hrel
    by_cases hp : pos < s.size
    · have hnx : ∀ ty, (Instr.next (.pointer (some ⟨w.heap.size, 0, none⟩)) true ty).run Try.prog (w.iter s pos) = _ := fun ty => run_next_any w s pos ty hp
      have hwd := Lib.decode_width_pos s pos hp
      go_wp2
      go_roundw
      case rel =>
        cases b with
        | zero => omega
        | succ b =>
          refine ⟨pos + (Utf8.decode s pos).2, b, acc + 1, rfl, by go_num, ?_, by omega, by omega⟩
          rw [← hc, runesFrom_step s b pos hp]
          simp
          omega
      case measure =>
        simp
        omega
    · have hnx : ∀ ty, (Instr.next (.pointer (some ⟨w.heap.size, 0, none⟩)) true ty).run Try.prog (w.iter s pos) = _ := fun ty => run_next_end w s pos ty hp
      go_wp2
      go_ret
      rw [runesFrom_end s b pos hp, List.length_nil, Nat.add_zero] at hc
      subst hc
      exact ⟨rfl, (Below.refl _ _).alloc (Nat.le_refl _) _⟩

/-- A letter's script. -/
def ofV (r : Int) : Int := if 97 ≤ r ∧ r ≤ 122 then 1 else if 945 ≤ r ∧ r ≤ 969 then 2 else if 1072 ≤ r ∧ r ≤ 1103 then 3 else 0

theorem blocks_any (w : World) : Calls Try.prog 34 #[] w fun e w' => e = .returned (.slice (some ⟨w.heap.size, 0, none⟩) 3 3) ∧
    w.alloc (.cells #[.int .u8 1, .int .i32 97, .int .i32 122, .int .u8 2, .int .i32 945, .int .i32 969, .int .u8 3, .int .i32 1072, .int .i32 1103] 55) = w' := by
  go_enter Try.func34, Try.ntmps34
  go_wp2
  go_ret
  exact ⟨rfl, rfl⟩
end Go.Proofs.Ytflbbpmlcllamaa
