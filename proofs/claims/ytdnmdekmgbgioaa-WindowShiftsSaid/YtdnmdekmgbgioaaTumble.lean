/-
  Contracts of window.Tumble: panes side by side, or what is refused. No condition.
-/
import Derived.Test.YtdnmdekmgbgioaaSlide
import Derived.Test.YtdnmdekmgbgioaaShifts
namespace Go.Proofs.Ytdnmdekmgbgioaa
open Go.RowKit
open Go.Sort hiding Below
set_option linter.unusedVariables false

/-- Widths that are none are refused. -/
theorem slide_size (A : Option Addr) (c : Nat) (l : List Rec) (size : Int) (w : World) (hl : SlA recE (· < w.heap.size) w A c l) (hok : AllOk l) (hs : ¬ (1 ≤ size ∧ size ≤ 1000000)) :
    Calls Try.prog 8 #[.slice A l.length c, .int .i64 size, .int .i64 size, .int .i64 1000000] w (Refused w) := by
  have H := Lib.hid hl
  have HK := Lib.hid hok
  have HS := Lib.hid hs
  have hll := hok.1
  clear hl hok hs
  go_enter Try.func8, Try.ntmps8
  go_wp2_with fail
  refine (check_loop A c l _ H.out hll).mono ?_
  rintro e w1 ⟨⟨-, rfl⟩ | ⟨hn, rfl⟩, hb⟩
  · have HB := Lib.hid hb
    clear hb
    go_wp2_with fail
    refine (time_no size _ HS.out).mono ?_
    rintro e w' ⟨rfl, rfl⟩
    go_wp2_with fail
    go_ret2
    exact ⟨⟨1, by decide, rfl⟩, HB.out⟩
  · exact absurd HK.out hn
def TumblePost (w : World) (m : List Pane) (e : Ending) (w' : World) : Prop := ∃ A' c' q, e = .returned (.tuple #[.slice A' (List.length q) c', .nilIface]) ∧ q.Perm m ∧ q.Pairwise (fun a b => ltOf paneCf b a = false) ∧ SlA panE (· < w'.heap.size) w' A' c' q ∧ Below w.heap.size w w'
theorem tumble_gen (A : Option Addr) (c : Nat) (l : List Rec) (size slack : Int) (w : World) (R : Ending → World → Prop)
    (h : Calls Try.prog 8 #[.slice A l.length c, .int .i64 size, .int .i64 size, .int .i64 slack] w fun e w' => (∃ a b, e = .returned (.tuple #[a, b])) ∧ R e w') :
    Calls Try.prog 15 #[.slice A l.length c, .int .i64 size, .int .i64 slack] w R := by
  have H := Lib.hid h
  have HR : Hid (∀ e w', R e w' → R e w') := fun _ _ h => h
  clear h
  go_enter Try.func15, Try.ntmps15
  go_wp2_with fail
  refine H.out.mono ?_
  rintro e w1 ⟨⟨a, b, rfl⟩, hr⟩
  have HH := Lib.hid hr
  clear hr
  go_wp2_with fail
  exact HH.out
theorem tumble_ok (A : Option Addr) (c : Nat) (l : List Rec) (size slack : Int) (w : World) (hl : SlA recE (· < w.heap.size) w A c l) (hok : AllOk l) (hs1 : 1 ≤ size) (hs2 : size ≤ 1000000) (hk1 : 0 ≤ slack) (hk2 : slack ≤ 1000000) :
    Calls Try.prog 15 #[.slice A l.length c, .int .i64 size, .int .i64 slack] w (TumblePost w (slideAll size size slack l).2) :=
  tumble_gen A c l size slack w _ ((slide_ok A c l size size slack w hl hok hs1 hs2 hs1 hs2 hk1 hk2 (by omega)).mono fun e w' ⟨A', c', q, he, h⟩ => ⟨⟨_, _, he⟩, A', c', q, he, h⟩)
theorem tumble_bad (A : Option Addr) (c : Nat) (l : List Rec) (size : Int) (w : World) (hl : SlA recE (· < w.heap.size) w A c l) (hb : ¬ (AllOk l ∧ 1 ≤ size ∧ size ≤ 1000000)) :
    Calls Try.prog 15 #[.slice A l.length c, .int .i64 size, .int .i64 1000000] w (Refused w) := by
  refine tumble_gen A c l size 1000000 w _ ?_
  have key : Calls Try.prog 8 #[.slice A l.length c, .int .i64 size, .int .i64 size, .int .i64 1000000] w (Refused w) := by
    by_cases hok : AllOk l
    · exact slide_size A c l size w hl hok fun h => hb ⟨hok, h⟩
    · exact slide_items A c l size size 1000000 w hl hok
  exact key.mono fun e w' h => ⟨by obtain ⟨⟨k, _, he⟩, _⟩ := h; exact ⟨_, _, he⟩, h⟩
end Go.Proofs.Ytdnmdekmgbgioaa
