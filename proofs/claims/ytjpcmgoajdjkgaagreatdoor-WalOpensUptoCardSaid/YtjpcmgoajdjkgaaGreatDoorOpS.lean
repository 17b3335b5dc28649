/- The two disks side by side. -/
import Derived.Test.YtjpcmgoajdjkgaaGreatDoorROpW
import Derived.Test.YtjpcmgoajdjkgaaGreatDoorOpnP
set_option linter.all false
namespace Go.Proofs.YtjpcmgoajdjkgaaGreatDoor
open Go.RowKit Go.Maps Go.Sort Go.Shelf

set_option maxRecDepth 100000 in
set_option maxHeartbeats 400000 in
theorem rfile_any (s : List UInt8) (hs : s.length ≤ 1073741824) (k : Int) (w : World) :
    Calls Tryz.prog 18 #[.string ⟨s.toArray⟩, .int .i64 k] w fun e w' => e = .returned (.string ⟨(Wal.fileB s k).toArray⟩) ∧ Below w.heap.size w w' := by
  by_cases h0 : k < 0
  · unfold Wal.fileB
    rw [if_pos (.inl h0)]
    go_enter Tryz.func18, Tryz.ntmps18
    go_wp2
    go_ret
    exact ⟨rfl, Below.refl _ _⟩
  by_cases h1 : 1000000000 ≤ k
  · unfold Wal.fileB
    rw [if_pos (.inr h1)]
    go_enter Tryz.func18, Tryz.ntmps18
    go_wp2
    go_ret
    exact ⟨rfl, Below.refl _ _⟩
  exact rfile_c s hs k (by omega) (by omega) w

theorem RLogR.below {m : Nat} {w w' : World} {g : Nat} {G : LogM} (h : RLogR m w g G) (hb : Below w.heap.size w w') : RLogR m w' g G := by
  obtain ⟨rd, lv, bv, ns, xs, vs, name, most, h⟩ := h
  exact ⟨rd, lv, bv, ns, xs, vs, name, most, h.below hb⟩
def OTHER : List UInt8 := [111, 116, 104, 101, 114]
theorem append_room (D : DiskM) (s b : List UInt8) : (D.append s b).1.room = D.room := by
  obtain ⟨_, h, _⟩ := step_keeps D (dnameB s)
  unfold DiskM.append
  split
  · exact h
  · split
    · split
      · exact h
      · split
        · exact h
        · exact h
    · split
      · exact h
      · exact h
/-- the two disks -/
structure OpS (N bd rd : Nat) (w : World) (D : DiskM) (Nn : Int) (lv : Value) (es : List (FileM × Value)) (W : World) : Prop where
  disk : DiskR N W bd D
  rdisk : RdX N W rd 1073741824 Nn lv es
  agree : Agree D (es.map (·.1))
  run : Runs D
  room : D.room = 1073741824
  below : Below N w W
  size : N ≤ W.heap.size
theorem OpS.fits {N bd rd : Nat} {w : World} {D : DiskM} {Nn : Int} {lv : Value} {es : List (FileM × Value)} {W : World} (h : OpS N bd rd w D Nn lv es W) : D.Fits := by
  obtain ⟨_, _, _, _, hX⟩ := h.disk
  exact hX.fits
theorem OpS.good {N bd rd : Nat} {w : World} {D : DiskM} {Nn : Int} {lv : Value} {es : List (FileM × Value)} {W : World} (h : OpS N bd rd w D Nn lv es W) : GoodD D ∧ es.length ≤ 16 ∧ ((sumE es : Nat) : Int) ≤ 1073741824 ∧ ∀ x ∈ es, x.1.name.length ≤ 1024 := by
  obtain ⟨h1, h2, h3, h4, h5, h6⟩ := h.fits
  rw [h.room] at h3
  have hl := h.agree.len
  rw [List.length_map] at hl
  refine ⟨⟨h.run, h5, h4, by omega⟩, by omega, ?_, fun x hx => ?_⟩
  · have := h.agree.sum
    unfold sumE
    omega
  · have := (h6 x.1 (h.agree.1.mem_iff.1 (List.mem_map_of_mem hx))).2
    omega
end Go.Proofs.YtjpcmgoajdjkgaaGreatDoor
