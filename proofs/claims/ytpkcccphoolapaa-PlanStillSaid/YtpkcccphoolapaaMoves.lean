/- Layer 15: moves. -/
import Derived.Test.YtpkcccphoolapaaRngJ
namespace Go.Proofs.Ytpkcccphoolapaa
open Go.RowKit

structure MoveL where
  src : Int
  dst : Int
  lo : Int
  hi : Int
  pairs : Int
def encMove (m : MoveL) : List Value := [.int .u8 m.src, .int .u8 m.dst, .int .u64 m.lo, .int .u64 m.hi, .int .i64 m.pairs]
theorem encMove_len (m : MoveL) : (encMove m).length = 5 := rfl
theorem encMove_one (m : MoveL) : ∀ u ∈ encMove m, u.oneCell' = true := by intro u hu; simp [encMove] at hu; rcases hu with rfl | rfl | rfl | rfl | rfl <;> rfl
def okMove (m : MoveL) : Prop := 0 ≤ m.src ∧ m.src ≤ 255 ∧ 0 ≤ m.dst ∧ m.dst ≤ 255 ∧ 0 ≤ m.lo ∧ m.lo ≤ maxK ∧ 0 ≤ m.hi ∧ m.hi ≤ maxK
abbrev Moves (B : Nat) (w : World) (A : Option Addr) (l : List MoveL) : Prop := Reads B w encMove 5 A l

theorem Moves.at5 {B : Nat} {w : World} {A : Option Addr} {l : List MoveL} (h : Moves B w A l) (i : Nat) (hi : i < l.length) :
    ∃ b off s, Hid (l[i]? = some s) ∧ A = some ⟨b, off, none⟩ ∧ b < B ∧ w.cell? ⟨b, off + i * 5, none⟩ = some (.int .u8 s.src) ∧ w.cell? ⟨b, off + i * 5 + 1, none⟩ = some (.int .u8 s.dst) ∧ w.cell? ⟨b, off + i * 5 + 2, none⟩ = some (.int .u64 s.lo) ∧ w.cell? ⟨b, off + i * 5 + 3, none⟩ = some (.int .u64 s.hi) ∧ w.cell? ⟨b, off + i * 5 + 4, none⟩ = some (.int .i64 s.pairs) := by
  obtain ⟨b, off, s, hs, hA, hb, hc⟩ := h.at i hi
  exact ⟨b, off, s, hs, hA, hb, hc 0 _ rfl, hc 1 _ rfl, hc 2 _ rfl, hc 3 _ rfl, hc 4 _ rfl⟩

set_option maxHeartbeats 2000000 in
/-- two slices that read alike are the same. -/
theorem sameMoves_any (B B' : Nat) (w : World) (A A' : Option Addr) (n c n' c' : Nat) (l : List MoveL) (hl : l.length = n) (hl' : l.length = n') (hm : n ≤ 9223372036854775807) (hR : Moves B w A l) (hR' : Moves B' w A' l) :
    Calls Try.prog 23 #[.slice A n c, .slice A' n' c'] w fun e w' => e = .returned (.bool true) ∧ ∃ q, w' = w.drewN q := by
  subst hl
  subst hl'
  go_enter Try.func23, Try.ntmps23
  go_wp2
  go_loopw [5] (fun i wr => ∃ k : Nat, k ≤ l.length ∧ i = .int .i64 k ∧ ∃ q, wr = w.drewN q) (fun i _ => l.length - (intOf i).toNat)
  case atStart => exact ⟨0, Nat.zero_le _, rfl, 0, rfl⟩
  case round =>
    obtain ⟨k, hk, rfl, q, rfl⟩ := hrel
    by_cases hlt : k < l.length
    · obtain ⟨b, off, s, hs, rfl, hb, c0, c1, c2, c3, c4⟩ := Moves.at5 hR k hlt
      obtain ⟨b', off', s', hs', rfl, hb', d0, d1, d2, d3, d4⟩ := Moves.at5 hR' k hlt
      obtain rfl : s' = s := by have := hs.out.symm.trans hs'.out; injection this with this; exact this.symm
      have hi : (k : Int) < (l.length : Int) := by omega
      go_wp2
      go_quiet (fail)
      go_wp2
      go_roundw
      case rel => exact ⟨k + 1, by omega, by go_num, by first | exact ⟨_, rfl⟩ | exact ⟨_, World.drewN_drewN ..⟩⟩
      case measure => simp [intOf]; omega
    · go_wp2
      go_ret
      exact ⟨rfl, _, rfl⟩
end Go.Proofs.Ytpkcccphoolapaa
