/- The law's same: of a log and the reference's log that have the same records. -/
import Derived.Test.YtjpcmgoajdjkgaaGreatDoorROpW
set_option linter.all false
namespace Go.Proofs.YtjpcmgoajdjkgaaGreatDoor
open Go.RowKit

def strsV (l : List (List UInt8)) : List Value := l.map fun s => .string ⟨s.toArray⟩

set_option maxRecDepth 100000 in
set_option maxHeartbeats 800000 in
theorem lnames_c (A B : Option Addr) (n c1 c2 : Nat) (l : List (List UInt8)) (hn : n = l.length) (hm : n ≤ 1048576) (w : World) (hA : Rd 0 w A (strsV l)) (hB : Rd 0 w B (strsV l)) :
    Calls Tryz.prog 26 #[.slice A n c1, .slice B n c2] w fun e w' => e = .returned (.bool true) ∧ ∃ q, w' = w.drewN q := by
  have HR := Lib.hid (And.intro hA (And.intro hB hn)); clear hA hB hn
  go_enter Tryz.func26, Tryz.ntmps26
  go_wp2_with fail
  go_loopw [5] (fun i W => ∃ k : Nat, k ≤ n ∧ i = .int .i64 k ∧ ∃ q, W = w.drewN q) (fun i _ => n - (intOf i).toNat)
  case atStart => exact ⟨0, by omega, rfl, 0, rfl⟩
  case round =>
    obtain ⟨k, hk, rfl, q, rfl⟩ := hrel
    by_cases hlt : k < n
    · have hkl : k < (strsV l).length := by simp only [strsV, List.length_map]; rw [← HR.out.2.2]; exact hlt
      obtain ⟨a, o, ha, hca⟩ := HR.out.1.addr (by omega)
      obtain ⟨b, p, hb, hcb⟩ := HR.out.2.1.addr (by omega)
      have q0 := hca k hkl
      have q1 := hcb k hkl
      have hkl2 : k < l.length := by simpa [strsV] using hkl
      obtain ⟨s, hs⟩ : ∃ s, l[k] = s := ⟨_, rfl⟩
      have hv : (strsV l)[k]? = some (.string ⟨s.toArray⟩) := by simp [strsV, hkl2, hs]
      rw [hv] at q0 q1
      have q0' : ((w.drewN q).drew).cell? ⟨a, o + k, none⟩ = some (.string ⟨s.toArray⟩) := q0
      have q1' : ((w.drewN q).drew).cell? ⟨b, p + k, none⟩ = some (.string ⟨s.toArray⟩) := q1
      subst ha hb
      clear hca hcb hv hs hkl hkl2
      go_wp2_with fail
      go_region
      go_wp2_with fail
      exact ⟨⟨k + 1, by omega, rfl, q + 1, rfl⟩, by simp [intOf]; omega⟩
    · obtain rfl : k = n := by omega
      go_wp2
      go_ret
      exact ⟨rfl, q, rfl⟩

theorem wrap_cl {x : Int} (h0 : 0 ≤ x) (h1 : x ≤ 2000000000000) : IntKind.i64.wrap x = x := IntWalk.i64_in _ (by omega)

set_option maxRecDepth 100000 in
set_option maxHeartbeats 1000000 in
theorem lsame_c (n bl bd m g : Nat) (G : LogM) (hsz : ∀ l ∈ G.recs, l.length ≤ 140737488355328) (w : World) (hL : LogR n w bl bd G) (hR : RLogR m w g G) :
    Calls Tryz.prog 29 #[.pointer (some ⟨bl, 0, none⟩), .pointer (some ⟨g, 0, none⟩)] w fun e w' => e = .returned (.bool true) ∧ Below w.heap.size w w' := by
  obtain ⟨rd, lv, bv, ns, xs, vs, name, most, hG⟩ := hR
  have e4 := Joins.cell_of_block hG.at_ 4
  have e5 := Joins.cell_of_block hG.at_ 5
  obtain ⟨A, cap, rfl, _, _, _⟩ := own_slice hG.row
  have hfew : G.recs.length ≤ 1099511627776 ∧ 0 ≤ G.first ∧ G.first ≤ 1000000000 := by obtain ⟨_, _, _, hX⟩ := hL; exact ⟨hX.few.1, hX.fst.1, hX.fst.2⟩
  obtain ⟨F, hF⟩ : ∃ F, G.first = F := ⟨_, rfl⟩
  obtain ⟨rl, hrl⟩ : ∃ r, G.recs.length = r := ⟨_, rfl⟩
  rw [hF] at e5
  rw [hrl] at e4
  rw [hF, hrl] at hfew
  obtain ⟨hr0, hf0, hf1⟩ := hfew
  have hfin : G.fin = F + rl := by unfold LogM.fin; rw [hF, hrl]
  have hwf : IntKind.i64.wrap (F + (rl : Int)) = F + rl := wrap_cl (by omega) (by omega)
  have H := Lib.hid (And.intro hL (And.intro hG (And.intro hF (And.intro hrl (And.intro hfin hsz))))); clear hL hG hF hrl hfin hsz
  simp at e4 e5
  have hneb : (F == F) = true := by simp
  have hneb2 : (F != F) = false := by simp
  go_enter Tryz.func29, Tryz.ntmps29
  go_wp2_with fail
  go_region_held3 (fun W => W.cell? ⟨g, 5, none⟩ = some (.int .i64 F) ∧ W.cell? ⟨g, 4, none⟩ = some (.slice A rl cap))
    (first | (refine ⟨?_, ?_⟩ <;> assumption) | go_keep)
    (first
      | (go_at_call 36; refine (first_c n bl bd G w.drew (H.out.1.keeps fun _ _ h _ => h)).mono ?_; rw [H.out.2.2.1]; rintro e w1 ⟨rfl, rfl⟩)
      | (go_at_call 37; refine (end_c n bl bd G w.drew (H.out.1.keeps fun _ _ h _ => h)).mono ?_; rw [H.out.2.2.2.2.1]; rintro e w1 ⟨rfl, q, rfl⟩))
  obtain ⟨w1, hw1⟩ : ∃ w1, w.drewN (1 + q) = w1 := ⟨_, rfl⟩
  have hB1 : Below w.heap.size w w1 := by rw [← hw1]; exact bdrewN w _
  rw [hw1]
  clear hw1
  go_wp2_with fail
  go_loopw [5] (fun i W => ∃ k : Nat, k ≤ rl ∧ i = .int .i64 (k : Int) ∧ Below w.heap.size w W) (fun i _ => rl - (intOf i).toNat)
  case atStart => exact ⟨0, by omega, rfl, hB1⟩
  case round =>
    obtain ⟨k, hk, rfl, hB⟩ := hrel
    have d4 := (hB.cell (cell_lt e4)).trans e4
    have d5 := (hB.cell (cell_lt e5)).trans e5
    by_cases hlt : k < rl
    · have hkd : decide ((k : Int) < (rl : Int)) = true := by simpa using hlt
      have hwk : IntKind.i64.wrap (F + (k : Int)) = F + k := wrap_cl (by omega) (by omega)
      have hkl : k < G.recs.length := by rw [H.out.2.2.2.1]; exact hlt
      have hgt : LogM.get G (F + (k : Int)) = some G.recs[k] := by
        unfold LogM.get
        rw [H.out.2.2.1, H.out.2.2.2.2.1, if_neg (by omega), show (F + (k : Int) - F).toNat = k by omega, List.getElem?_eq_getElem hkl]
      have hGt := get_c n bl bd G (F + (k : Int)) (by omega) (by omega) wr (H.out.1.below hB) H.out.2.2.2.2.2
      rw [hgt] at hGt
      obtain ⟨x, hx⟩ : ∃ x, G.recs[k] = x := ⟨_, rfl⟩
      have hxs : G.recs[k]? = some x := by rw [List.getElem?_eq_getElem hkl, hx]
      rw [hx] at hGt
      have hvl : vs.length = rl := by have := H.out.2.1.row.1; rw [H.out.2.2.2.1] at this; omega
      obtain ⟨b, o, hb, hcell⟩ := (Rd.of_own H.out.2.1.row).addr (by omega)
      have q0 := hcell k (by omega)
      obtain ⟨vx, hvx⟩ : ∃ v, vs[k]? = some v := ⟨_, List.getElem?_eq_getElem (by omega)⟩
      rw [hvx] at q0
      have hbx := H.out.2.1.each k vx x hvx hxs
      obtain ⟨Ax, cx, rfl⟩ : ∃ A c, vx = .slice A x.length c := by obtain ⟨A, c, h, _⟩ := hbx; exact ⟨A, c, h⟩
      subst hb
      have HK := Lib.hid (And.intro hGt (And.intro hbx (And.intro hB q0))); clear hGt hbx hB hx hxs hgt hvx hcell hkl hvl q0
      go_wp2_with fail
      refine HK.out.1.mono ?_
      rintro e w2 ⟨v2, rfl, hb2, hB2⟩
      obtain ⟨A2, c2, rfl⟩ : ∃ A c, v2 = .slice A x.length c := by obtain ⟨A, c, h, _⟩ := hb2; exact ⟨A, c, h⟩
      have hB12 := bstep HK.out.2.2.1 hB2
      have f4 := (hB12.cell (cell_lt e4)).trans e4
      have q2 := (hB12.cell (cell_lt HK.out.2.2.2)).trans HK.out.2.2.2
      have H2 := Lib.hid (And.intro hb2.toR.rd_of (And.intro ((HK.out.2.1.below hB12).toR.rd_of) hB12)); clear hb2 hB2 hB12
      simp only [Option.isSome_some, if_true]
      go_wp2_with fail
      refine (same_c A2 Ax _ _ c2 cx x x rfl rfl w2 H2.out.1 H2.out.2.1).mono ?_
      rintro e w3 ⟨rfl, rfl⟩
      rw [show (x == x) = true by simp]
      go_wp2_with fail
      exact ⟨⟨k + 1, by omega, rfl, H2.out.2.2⟩, by simp [intOf]; omega⟩
    · obtain rfl : k = rl := by omega
      have hkd : decide ((k : Int) < (k : Int)) = false := by simp
      have HK := Lib.hid hB; clear hB
      go_wp2_with fail
      go_ret
      exact ⟨rfl, HK.out⟩
end Go.Proofs.YtjpcmgoajdjkgaaGreatDoor
