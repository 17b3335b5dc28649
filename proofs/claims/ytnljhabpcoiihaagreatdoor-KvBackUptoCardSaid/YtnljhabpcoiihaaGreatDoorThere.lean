/- A disk's 'there', Read, Sync, Truncate. A disk's Sync and Truncate. -/
import Derived.Test.YtnljhabpcoiihaaGreatDoorStep
import Derived.Test.YtnljhabpcoiihaaGreatDoorByt
set_option linter.all false
namespace Go.Proofs.YtnljhabpcoiihaaGreatDoor
open Go.RowKit

def fileAt : List FileM → List UInt8 → Option FileM
  | [], _ => none
  | f :: r, s => if f.name = s then some f else fileAt r s

theorem entAt_none {xs : List FEnt} {s : List UInt8} (h : entAt xs s = none) : fileAt (xs.map (·.f)) s = none := by
  induction xs with
  | nil => rfl
  | cons x r ih =>
    by_cases hx : x.f.name = s
    · simp [entAt, hx] at h
    · rw [entAt, if_neg hx] at h
      rw [List.map_cons, fileAt, if_neg hx]
      exact ih h
theorem entAt_some {xs : List FEnt} {s : List UInt8} {x : FEnt} (h : entAt xs s = some x) : fileAt (xs.map (·.f)) s = some x.f ∧ x ∈ xs ∧ x.f.name = s := by
  induction xs with
  | nil => simp [entAt] at h
  | cons y r ih =>
    by_cases hx : y.f.name = s
    · rw [entAt, if_pos hx] at h
      cases h
      exact ⟨by rw [List.map_cons, fileAt, if_pos hx], by simp, hx⟩
    · rw [entAt, if_neg hx] at h
      obtain ⟨h1, h2, h3⟩ := ih h
      exact ⟨by rw [List.map_cons, fileAt, if_neg hx]; exact h1, by simp [h2], h3⟩

theorem und_files : Tryz.prog.underlying 83 = some (.map 9 89) := by kernel_rfl
theorem und_string : Tryz.prog.underlying 9 = some .string := by kernel_rfl
theorem zero_file (w : World) : (zeroValue 89).run Tryz.prog w = .ok (.pointer none) w := by kernel_rfl

theorem step_keeps (D : DiskM) (ok : Bool) : (D.step ok).1.files = D.files ∧ (D.step ok).1.room = D.room ∧ (D.step ok).1.plan = D.plan := by
  unfold DiskM.step DiskM.tick
  repeat' split
  all_goals exact ⟨rfl, rfl, rfl⟩
theorem step_ok {D : DiskM} {ok : Bool} (h : (D.step ok).2 = 0) : ok = true ∧ D.down = false := by
  unfold DiskM.step at h
  cases hd : D.down <;> cases ok <;> simp_all
theorem step_code (D : DiskM) (ok : Bool) : (D.step ok).2 = 0 ∨ (D.step ok).2 = 1 ∨ (D.step ok).2 = 30 ∨ (D.step ok).2 = 31 ∨ (D.step ok).2 = 32 := by
  unfold DiskM.step
  repeat' split
  all_goals simp

theorem List.inj_on_of_nodup_map' {α β : Type} {f : α → β} : ∀ {l : List α}, (l.map f).Nodup → ∀ {x y : α}, x ∈ l → y ∈ l → f x = f y → x = y
  | [], _, _, _, hx, _, _ => by simp at hx
  | a :: r, hd, x, y, hx, hy, e => by
    rw [List.map_cons, List.nodup_cons] at hd
    rcases List.mem_cons.1 hx with h1 | h1 <;> rcases List.mem_cons.1 hy with h2 | h2
    · rw [h1, h2]
    · exact absurd (by rw [← h1, e]; exact List.mem_map_of_mem h2) hd.1
    · exact absurd (by rw [← h2, ← e]; exact List.mem_map_of_mem h1) hd.1
    · exact List.inj_on_of_nodup_map' hd.2 h1 h2 e
theorem le_sumLen {l : List FileM} {f : FileM} (h : f ∈ l) : f.b.length ≤ sumLen l := by
  induction l with
  | nil => simp at h
  | cons g r ih =>
    simp only [sumLen, List.map_cons, List.sum_cons] at ih ⊢
    rcases List.mem_cons.1 h with rfl | h
    · omega
    · have := ih h; omega

/-- a file of that name is this one now -/
def setFile (l : List FileM) (f' : FileM) : List FileM := l.map fun f => if f.name = f'.name then f' else f
theorem set_names (l : List FileM) (f' : FileM) : (setFile l f').map (·.name) = l.map (·.name) := by
  unfold setFile
  rw [List.map_map]
  apply List.map_congr_left
  intro f _
  simp only [Function.comp]
  split
  · rename_i h; exact h.symm
  · rfl
theorem set_absent {l : List FileM} {f' : FileM} (h : ∀ g ∈ l, g.name ≠ f'.name) : setFile l f' = l := by
  unfold setFile
  conv => rhs; rw [← List.map_id l]
  apply List.map_congr_left
  intro g hg
  rw [if_neg (h g hg)]
  rfl
theorem fileAt_mem {l : List FileM} {s : List UInt8} {f : FileM} (h : fileAt l s = some f) : f ∈ l ∧ f.name = s := by
  induction l with
  | nil => simp [fileAt] at h
  | cons g r ih =>
    by_cases hg : g.name = s
    · rw [fileAt, if_pos hg] at h; cases h; exact ⟨by simp, hg⟩
    · rw [fileAt, if_neg hg] at h
      obtain ⟨h1, h2⟩ := ih h
      exact ⟨by simp [h1], h2⟩
theorem fileAt_of {l : List FileM} (hd : (l.map (·.name)).Nodup) {f : FileM} (h : f ∈ l) : fileAt l f.name = some f := by
  induction l with
  | nil => simp at h
  | cons g r ih =>
    rw [List.map_cons, List.nodup_cons] at hd
    by_cases hg : g.name = f.name
    · rw [fileAt, if_pos hg]
      rcases List.mem_cons.1 h with rfl | h
      · rfl
      · exact absurd (hg ▸ List.mem_map_of_mem h) hd.1
    · rw [fileAt, if_neg hg]
      rcases List.mem_cons.1 h with rfl | h
      · exact absurd rfl hg
      · exact ih hd.2 h
theorem set_sum {l : List FileM} (hd : (l.map (·.name)).Nodup) {f f' : FileM} (h : fileAt l f'.name = some f) : sumLen (setFile l f') + f.b.length = sumLen l + f'.b.length := by
  induction l with
  | nil => simp [fileAt] at h
  | cons g r ih =>
    rw [List.map_cons, List.nodup_cons] at hd
    by_cases hg : g.name = f'.name
    · rw [fileAt, if_pos hg] at h; cases h
      have : setFile r f' = r := set_absent fun k hk e => hd.1 (by rw [hg, ← e]; exact List.mem_map_of_mem hk)
      have e1 : setFile (f :: r) f' = f' :: r := by
        rw [setFile, List.map_cons, if_pos hg]
        exact congrArg _ this
      rw [e1]
      simp only [sumLen, List.map_cons, List.sum_cons]
      omega
    · rw [fileAt, if_neg hg] at h
      have := ih hd.2 h
      have e1 : setFile (g :: r) f' = g :: setFile r f' := by
        rw [setFile, List.map_cons, if_neg hg]; rfl
      rw [e1]
      simp only [sumLen, List.map_cons, List.sum_cons] at this ⊢
      omega
theorem set_fits {D : DiskM} (h : D.Fits) {f f' : FileM} (hf : fileAt D.files f'.name = some f) (hs : f'.safe ≤ f'.b.length) (hl : (sumLen D.files : Int) + f'.b.length - f.b.length ≤ D.room) :
    ({ D with files := setFile D.files f' } : DiskM).Fits := by
  obtain ⟨h0, h1, h2, h3, h4, h5⟩ := h
  have e := set_sum h4 hf
  refine ⟨h0, h1, ?_, ?_, ?_, ?_⟩
  · show (sumLen (setFile D.files f') : Int) ≤ D.room
    omega
  · show (setFile D.files f').length ≤ 16
    unfold setFile
    rw [List.length_map]; exact h3
  · show ((setFile D.files f').map (·.name)).Nodup
    rw [set_names]; exact h4
  · intro g hg
    obtain ⟨g0, hg0, rfl⟩ := List.mem_map.1 hg
    split
    · rename_i hg; exact ⟨hs, by rw [← hg]; exact (h5 g0 hg0).2⟩
    · exact h5 g0 hg0

/-- one file's block is written -/
theorem DiskX.turnFile {n : Nat} {w w' : World} {bd bm clock : Nat} {pv : Value} {xs : List FEnt} {D : DiskM} (h : DiskX n w bd bm clock pv xs D) {x : FEnt} (hx : x ∈ xs) (f' : FileM) (hn : f'.name = x.f.name)
    {v' : Value} (hb : w'.heap[x.blk]? = some (.cells #[v', .int .i64 (f'.safe : Int)] 91 (0, 0))) (hv : Bs 5 w' v' f'.b)
    (hk : ∀ (b : Nat) (o : Obj), w.heap[b]? = some o → b ≠ x.blk → w'.heap[b]? = some o) (hfit : ({ D with files := setFile D.files f' } : DiskM).Fits) :
    DiskX n w' bd bm clock pv (xs.map fun y => if y.f.name = f'.name then { y with f := f' } else y) { D with files := setFile D.files f' } := by
  obtain ⟨hxn, v0, hx0, _⟩ := h.files.each x hx
  have hnk := h.files.nk
  have hnames : (xs.map fun y => y.f.name).Nodup := by
    have := h.fits.2.2.2.2.1
    rw [← h.same, List.map_map] at this
    exact this
  have hinj : ∀ y ∈ xs, y.f.name = x.f.name → y = x := fun y hy e => List.inj_on_of_nodup_map' hnames hy hx e
  have hinjb : ∀ y ∈ xs, y.blk = x.blk → y = x := fun y hy e => List.inj_on_of_nodup_map' hnk hy hx e
  have hdb : bd ≠ x.blk := fun e => by have := h.at_; rw [e, hx0] at this; injection this with this; injection this with _ this; revert this; decide
  have hmb : bm ≠ x.blk := fun e => by have := h.files.at_; rw [e, hx0] at this; injection this with this; cases this
  have he : (xs.map fun y => if y.f.name = f'.name then { y with f := f' } else y).map FEnt.ent = xs.map FEnt.ent := by
    rw [List.map_map]
    apply List.map_congr_left
    intro y hy
    simp only [Function.comp]
    split
    · rename_i e; simp only [FEnt.ent, e]
    · rfl
  refine ⟨h.le, hk _ _ h.at_ hdb, ?_, ⟨?_, h.files.le, ?_, ?_, ?_, ?_⟩, ?_, hfit, h.apart⟩
  · rcases h.plan with h | ⟨bp, es, c, rfl, h1, h2, h3⟩
    · exact .inl h
    · exact .inr ⟨bp, es, c, rfl, h1, hk _ _ h2 (fun e => by rw [e, hx0] at h2; injection h2 with h2; cases h2), h3⟩
  · rw [he]; exact hk _ _ h.files.at_ hmb
  · intro y hy
    obtain ⟨y0, hy0, rfl⟩ := List.mem_map.1 hy
    have := h.files.born y0 hy0
    split <;> exact this
  · have : (xs.map fun y => if y.f.name = f'.name then { y with f := f' } else y).map (·.born) = xs.map (·.born) := by
      rw [List.map_map]; apply List.map_congr_left; intro y hy; simp only [Function.comp]; split <;> rfl
    rw [this]; exact h.files.nb
  · have : (xs.map fun y => if y.f.name = f'.name then { y with f := f' } else y).map (·.blk) = xs.map (·.blk) := by
      rw [List.map_map]; apply List.map_congr_left; intro y hy; simp only [Function.comp]; split <;> rfl
    rw [this]; exact hnk
  · intro y hy
    obtain ⟨y0, hy0, rfl⟩ := List.mem_map.1 hy
    split
    · rename_i e
      obtain rfl := hinj y0 hy0 (e.trans hn)
      exact ⟨hxn, v', hb, hv⟩
    · rename_i e
      have hne : y0.blk ≠ x.blk := fun e2 => e (by rw [hinjb y0 hy0 e2, hn])
      obtain ⟨h1, v, h2, h3⟩ := h.files.each y0 hy0
      exact ⟨h1, v, hk _ _ h2 hne, h3.keeps fun b o hb' ht => hk b o hb' (fun e2 => by rw [e2, hx0] at hb'; injection hb' with hb'; subst hb'; revert ht; simp [tagOf])⟩
  · rw [List.map_map]
    show _ = setFile D.files f'
    rw [← h.same, setFile, List.map_map]
    apply List.map_congr_left
    intro y hy
    simp only [Function.comp]
    split <;> rfl

/-- how 'there' ends -/
def TherePost (n bd : Nat) (D : DiskM) (s : List UInt8) (w : World) (e : Ending) (w' : World) : Prop :=
  Turn n [some 86] w w' ∧
  ((∃ k, (D.step (dnameB s)).2 = k ∧ k ≠ 0 ∧ e = .returned (.tuple #[.pointer none, .int .i64 k]) ∧ DiskR n w' bd (D.step (dnameB s)).1) ∨
   ((D.step (dnameB s)).2 = 0 ∧ fileAt D.files s = none ∧ e = .returned (.tuple #[.pointer none, .int .i64 33]) ∧ DiskR n w' bd (D.step (dnameB s)).1) ∨
   ((D.step (dnameB s)).2 = 0 ∧ ∃ bm clock pv xs x, DiskX n w' bd bm clock pv xs (D.step (dnameB s)).1 ∧ entAt xs s = some x ∧ e = .returned (.tuple #[.pointer (some ⟨x.blk, 0, none⟩), .int .i64 0])))

set_option maxRecDepth 100000 in
set_option maxHeartbeats 400000 in
theorem there_c (n bd : Nat) (D : DiskM) (s : List UInt8) (hm : s.length ≤ 4611686018427387904) (b o c : Nat) (w : World) (hD : DiskR n w bd D)
    (hc : ∀ W, Turn n [some 86] w W → W.cell? ⟨b, o, none⟩ = some (.string ⟨s.toArray⟩)) :
    Calls Tryz.prog 120 #[.pointer (some ⟨bd, 0, none⟩), .slice (some ⟨b, o, none⟩) 1 c] w fun e w' => TherePost n bd D s w e w' := by
  have HSt := Lib.hid (step_c n bd D s hm b o c w hD (hc w (Turn.refl _ _ _)))
  have HC := Lib.hid hc; clear hc hD
  obtain ⟨ND, hnd⟩ : ∃ N, D.step (dnameB s) = N := ⟨_, rfl⟩
  rw [hnd] at HSt
  have HP : Hid (∀ e w', TherePost n bd D s w e w' ↔ TherePost n bd D s w e w') := Lib.hid fun _ _ => Iff.rfl
  have hcode := step_code D (dnameB s)
  have hkeep := step_keeps D (dnameB s)
  rw [hnd] at hcode hkeep
  have HK := Lib.hid hkeep; clear hkeep
  by_cases h0 : ND.2 = 0
  · have HSt' := HSt.out
    rw [h0] at HSt'
    have HS := Lib.hid HSt'; clear HSt' HSt hcode
    go_enter Tryz.func120, Tryz.ntmps120
    go_wp2_with (go_at_call 37; refine HS.out.mono ?_; rintro e W ⟨rfl, hR1, hT1⟩; have HR1 := Lib.hid (And.intro hR1 hT1); clear hR1 hT1)
    obtain ⟨⟨bm, clock, pv, xs, hX⟩, hT⟩ := HR1.out
    have hcs : W.drew.cell? ⟨b, o, none⟩ = some (.string ⟨s.toArray⟩) := HC.out W hT
    have c1 := Joins.cell_of_block hX.drew.at_ 1
    have hl := look_file und_files und_string zero_file xs hX.drew.files.at_ s
    simp at c1
    have HX := Lib.hid (And.intro hX hT); clear hX hT
    cases he : entAt xs s with
    | none =>
      rw [he] at hl
      simp at hl
      go_region
      go_wp2
      go_ret2
      refine ⟨HX.out.2.drew, .inr (.inl ?_)⟩
      rw [hnd]
      exact ⟨h0, by rw [← HK.out.1, ← HX.out.1.same]; exact entAt_none he, rfl, bm, clock, pv, xs, HX.out.1.drew⟩
    | some x =>
      rw [he] at hl
      simp at hl
      go_region
      go_wp2
      go_ret2
      refine ⟨HX.out.2.drew, .inr (.inr ?_)⟩
      rw [hnd]
      exact ⟨h0, bm, clock, pv, xs, x, HX.out.1.drew, he, rfl⟩
  · have HSt' := HSt.out
    obtain ⟨k, hk⟩ : ∃ k, ND.2 = k := ⟨_, rfl⟩
    rw [hk] at HSt' h0
    have HK2 := Lib.hid hk; clear hk
    have HS := Lib.hid HSt'; clear HSt' HSt hcode
    go_enter Tryz.func120, Tryz.ntmps120
    go_wp2_with (go_at_call 37; refine HS.out.mono ?_; rintro e W ⟨rfl, hR1, hT1⟩; have HR1 := Lib.hid (And.intro hR1 hT1); clear hR1 hT1)
    go_ret2
    refine ⟨HR1.out.2, .inl ?_⟩
    rw [hnd]
    exact ⟨k, HK2.out, h0, rfl, HR1.out.1⟩

theorem own_string (w : World) (s : ByteArray) : (w.alloc (.cells #[.string s] 9)).cell? ⟨w.heap.size, 0, none⟩ = some (.string s) := by
  rw [Joins.cell_of_block (heap_alloc_new w _) 0]
  rfl

def DiskM.sync (D : DiskM) (s : List UInt8) : DiskM × Int :=
  if (D.step (dnameB s)).2 ≠ 0 then D.step (dnameB s)
  else match fileAt D.files s with
    | none => ((D.step (dnameB s)).1, 33)
    | some f => ({ (D.step (dnameB s)).1 with files := setFile D.files { f with safe := f.b.length } }, 0)

def DiskM.read (D : DiskM) (s : List UInt8) : DiskM × List UInt8 × Int :=
  if (D.step (dnameB s)).2 ≠ 0 then ((D.step (dnameB s)).1, [], (D.step (dnameB s)).2)
  else match fileAt D.files s with
    | none => ((D.step (dnameB s)).1, [], 33)
    | some f => ((D.step (dnameB s)).1, f.b, 0)

set_option maxRecDepth 100000 in
set_option maxHeartbeats 400000 in
theorem read_c (n bd : Nat) (D : DiskM) (s : List UInt8) (hm : s.length ≤ 4611686018427387904) (w : World) (hD : DiskR n w bd D) :
    Calls Tryz.prog 107 #[.pointer (some ⟨bd, 0, none⟩), .string ⟨s.toArray⟩] w fun e w' =>
      ∃ v, e = .returned (.tuple #[v, .int .i64 (D.read s).2.2]) ∧ Bs 5 w' v (D.read s).2.1 ∧ DiskR n w' bd (D.read s).1 ∧ Turn n [some 86] w w' := by
  have hb0 := bnew w (.cells #[.string ⟨s.toArray⟩] 9)
  have hTh := there_c n bd D s hm w.heap.size 0 1 _ (hD.below hb0) (fun W hW => by
    have h1 := hW.block w.heap.size _ (heap_alloc_new w _) (.inr (by simp [tagOf]))
    rw [Joins.cell_of_block h1 0]; rfl)
  have HT := Lib.hid hTh; clear hTh hD
  have HB := Lib.hid hb0; clear hb0
  obtain ⟨RD, hrd⟩ : ∃ R, D.read s = R := ⟨_, rfl⟩
  rw [hrd]
  unfold DiskM.read at hrd
  go_enter Tryz.func107, Tryz.ntmps107
  go_wp2_with fail
  refine HT.out.mono ?_
  rintro e W ⟨hT, ⟨k, hk, hk0, rfl, hR⟩ | ⟨h0, hn, rfl, hR⟩ | ⟨h0, bm, clock, pv, xs, x, hX, hx, rfl⟩⟩
  · rw [if_pos (by rw [hk]; exact hk0), hk] at hrd
    subst hrd
    have HQ := Lib.hid (And.intro hT hR); clear hT hR hk
    go_wp2
    go_ret2
    exact ⟨_, rfl, Bs.nil _ _, HQ.out.2, (Turn.of_below HB.out).trans HQ.out.1⟩
  · rw [if_neg (by rw [h0]; simp), hn] at hrd
    subst hrd
    have HQ := Lib.hid (And.intro hT hR); clear hT hR h0 hn
    go_wp2
    go_ret2
    exact ⟨_, rfl, Bs.nil _ _, HQ.out.2, (Turn.of_below HB.out).trans HQ.out.1⟩
  · obtain ⟨e1, e2, e3⟩ := entAt_some hx
    have e4 : fileAt D.files s = some x.f := by rw [← (step_keeps D (dnameB s)).1, ← hX.same]; exact e1
    rw [if_neg (by rw [h0]; simp), e4] at hrd
    subst hrd
    obtain ⟨_, v, hb, hv⟩ := hX.files.each x e2
    have c0 := Joins.cell_of_block hb 0
    simp at c0
    have hv0 := hv
    obtain ⟨A, cap, rfl, hc, hcm, _⟩ := hv
    have hfit := hX.fits
    have hlen : x.f.b.length ≤ 1073741824 := by
      obtain ⟨h1, h2, h3, _⟩ := hfit
      have hmem : x.f ∈ (D.step (dnameB s)).1.files := by rw [← hX.same]; exact List.mem_map_of_mem e2
      have := le_sumLen hmem
      omega
    obtain ⟨A', cap', hA, _, hr⟩ := hv0.toR
    injection hA with hA1 hA2 hA3
    subst hA1 hA3
    have hcl := clone_c A x.f.b.length cap x.f.b rfl W (by omega) hr
    have HQ := Lib.hid (And.intro hT (And.intro hX hcl)); clear hT hX h0 e1 e3 hr hv0 hb e4 hx e2 hcl hfit
    go_wp2_with (go_at_call 130; refine HQ.out.2.2.mono ?_; rintro e W2 ⟨v2, rfl, hown, hb2⟩; have HO := Lib.hid (And.intro hown hb2); clear hown hb2)
    go_ret2
    exact ⟨_, rfl, Bs.of_own HO.out.1, ⟨bm, clock, pv, xs, HQ.out.2.1.keeps (Keeps8.of_below HO.out.2)⟩, ((Turn.of_below HB.out).trans HQ.out.1).bel HO.out.2⟩
end Go.Proofs.YtnljhabpcoiihaaGreatDoor
set_option linter.all false
namespace Go.Proofs.YtnljhabpcoiihaaGreatDoor
open Go.RowKit

theorem file_len {D : DiskM} (h : D.Fits) {f : FileM} (hf : f ∈ D.files) : f.b.length ≤ 1073741824 := by
  obtain ⟨h1, h2, h3, _⟩ := h
  have := le_sumLen hf
  omega

theorem heap_setCell_ne {w : World} {b i : Nat} {v : Value} {x : Nat} {o : Obj} (h : w.heap[x]? = some o) (hx : x ≠ b) : (w.setCell ⟨b, i, none⟩ v).heap[x]? = some o :=
  (Below.heap_setCell w ⟨b, i, none⟩ v x hx).trans h

set_option maxRecDepth 100000 in
set_option maxHeartbeats 400000 in
theorem sync_c (n bd : Nat) (D : DiskM) (s : List UInt8) (hm : s.length ≤ 4611686018427387904) (w : World) (hD : DiskR n w bd D) :
    Calls Tryz.prog 119 #[.pointer (some ⟨bd, 0, none⟩), .string ⟨s.toArray⟩] w fun e w' =>
      e = .returned (.int .i64 (D.sync s).2) ∧ DiskR n w' bd (D.sync s).1 ∧ Turn n [some 86, some 91] w w' := by
  have hb0 := bnew w (.cells #[.string ⟨s.toArray⟩] 9)
  have hTh := there_c n bd D s hm w.heap.size 0 1 _ (hD.below hb0) (fun W hW => by
    have h1 := hW.block w.heap.size _ (heap_alloc_new w _) (.inr (by simp [tagOf]))
    rw [Joins.cell_of_block h1 0]; rfl)
  have HT := Lib.hid hTh; clear hTh hD
  have HB := Lib.hid hb0; clear hb0
  obtain ⟨RD, hrd⟩ : ∃ R, D.sync s = R := ⟨_, rfl⟩
  rw [hrd]
  unfold DiskM.sync at hrd
  go_enter Tryz.func119, Tryz.ntmps119
  go_wp2_with fail
  refine HT.out.mono ?_
  rintro e W ⟨hT, ⟨k, hk, hk0, rfl, hR⟩ | ⟨h0, hn, rfl, hR⟩ | ⟨h0, bm, clock, pv, xs, x, hX, hx, rfl⟩⟩
  · rw [if_pos (by rw [hk]; exact hk0)] at hrd
    have hrd2 : RD.2 = k := by rw [← hrd]; exact hk
    have hrd1 : RD.1 = (D.step (dnameB s)).1 := by rw [← hrd]
    have HQ := Lib.hid (And.intro hT hR); clear hT hR hk hrd
    have HR2 := Lib.hid (And.intro hrd1 hrd2); clear hrd1 hrd2
    go_wp2
    go_ret
    rw [HR2.out.1, HR2.out.2]
    exact ⟨rfl, HQ.out.2, ((Turn.of_below HB.out).trans HQ.out.1).mono (Nat.le_refl _) (by simp)⟩
  · rw [if_neg (by rw [h0]; simp), hn] at hrd
    subst hrd
    have HQ := Lib.hid (And.intro hT hR); clear hT hR h0 hn
    go_wp2
    go_ret
    exact ⟨rfl, HQ.out.2, ((Turn.of_below HB.out).trans HQ.out.1).mono (Nat.le_refl _) (by simp)⟩
  · obtain ⟨e1, e2, e3⟩ := entAt_some hx
    have e4 : fileAt D.files s = some x.f := by rw [← (step_keeps D (dnameB s)).1, ← hX.same]; exact e1
    rw [if_neg (by rw [h0]; simp), e4] at hrd
    subst hrd
    obtain ⟨hxn, v, hb, hv⟩ := hX.files.each x e2
    have c0 := Joins.cell_of_block hb 0
    have c1 := Joins.cell_of_block hb 1
    have f1 := Joins.unfrozen_of_block hb 1
    simp at c0 c1
    have hv0 := hv
    obtain ⟨A, cap, rfl, hc, hcm, _⟩ := hv
    have HQ := Lib.hid (And.intro hT (And.intro hX (And.intro hv0 (And.intro hb (And.intro hxn (And.intro e2 e4)))))); clear hT hX h0 e1 e3 hv0 hb e4 hx e2 hxn
    go_wp2
    go_ret
    obtain ⟨hT, hX, hv0, hb, hxn, e2, e4⟩ := HQ.out
    have hk := step_keeps D (dnameB s)
    have hfit : ({ (D.step (dnameB s)).1 with files := setFile (D.step (dnameB s)).1.files { x.f with safe := x.f.b.length } } : DiskM).Fits :=
      set_fits hX.fits (f := x.f) (by rw [hk.1]; have := (fileAt_mem e4).2; simp only; rw [this]; exact e4) (Nat.le_refl _) (by
          have := hX.fits.2.2.1
          simp only; omega)
    have hv2 : Bs 5 (W.setCell ⟨x.blk, 1, none⟩ (.int .i64 (x.f.b.length : Int))) (.slice A x.f.b.length cap) x.f.b :=
      hv0.keeps fun b o hb' ht => heap_setCell_ne hb' (fun e => by subst e; rw [hb] at hb'; cases hb'; revert ht; simp [tagOf])
    have hX2 := hX.turnFile (w' := W.setCell ⟨x.blk, 1, none⟩ (.int .i64 (x.f.b.length : Int))) e2 { x.f with safe := x.f.b.length } rfl (by rw [Joins.block_setCell hb]; rfl) hv2 (fun b o hb' hne => heap_setCell_ne hb' hne) hfit
    rw [hk.1] at hX2
    refine ⟨rfl, ⟨bm, clock, pv, _, hX2⟩, ?_⟩
    exact (((Turn.of_below HB.out).trans hT).mono (Nat.le_refl _) (by simp)).setCell hb hxn (by simp) _ _
end Go.Proofs.YtnljhabpcoiihaaGreatDoor
