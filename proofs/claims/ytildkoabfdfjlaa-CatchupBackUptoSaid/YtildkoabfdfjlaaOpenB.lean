/- The law's arguments, opened: a block, a commit. -/
import Derived.Test.YtildkoabfdfjlaaOpen
import Derived.Test.YtildkoabfdfjlaaEq
set_option linter.all false
namespace Go.Proofs.Ytildkoabfdfjlaa
open Go.RowKit Go.Deep
section
variable {H : Type} {enc : TypeId × Value → H} {W : World} {spare : Nat → Bool} {held : Bool} {fuel : Nat} {cs : List Value} {x : DataW H × List MemPlace}

theorem field_at {fs : Array Field} {l : List (TypeId × Nat)} (h : fs.toList.map (fun f => (f.type, f.offset)) = l) {i : Nat} {t : TypeId} {o : Nat} (hi : l[i]? = some (t, o)) : ∃ f, fs[i]? = some f ∧ f.type = t ∧ f.offset = o := by
  rw [← h, List.getElem?_map, Array.getElem?_toList] at hi
  cases hf : fs[i]? with
  | none => simp [hf] at hi
  | some f =>
    simp only [hf, Option.map_some, Option.some.injEq, Prod.mk.injEq] at hi
    exact ⟨f, rfl, hi.1, hi.2⟩
theorem struct_parts {t : TypeId} {l : List (TypeId × Nat)} (ht : Try.prog.underlying t = some (.struct (Try.prog.fieldsOf t))) (hl : (Try.prog.fieldsOf t).toList.map (fun f => (f.type, f.offset)) = l) (h : DataW.trod enc Try.prog W 0 spare held fuel t cs = some x) :
    cs.length = Try.prog.cellsOf t ∧ ∀ (i : Nat) (u : TypeId) (o : Nat), l[i]? = some (u, o) → ∃ y n, DataW.trod enc Try.prog W 0 spare held n u ((cs.drop o).take (Try.prog.cellsOf u)) = some y ∧ Rows.uptoBulk y.1 ≤ Rows.uptoBulk x.1 := by
  obtain ⟨xs, n, _, rfl, hlen, hxs, hf⟩ := DataW.trod_struct ht h
  refine ⟨hlen, fun i u o hi => ?_⟩
  obtain ⟨f, h1, rfl, rfl⟩ := field_at hl hi
  have hlt : i < xs.length := by rw [hxs]; exact (Array.getElem?_eq_some_iff.1 h1).1
  have h2 := hf i f h1
  rw [List.getElem?_eq_getElem hlt] at h2
  refine ⟨_, n, h2, ?_⟩
  have key : ∀ (l : List (DataW H)) (d : DataW H), d ∈ l → Rows.uptoBulk d ≤ Rows.uptoBulkAll l := by
    intro l
    induction l with
    | nil => intro d h; cases h
    | cons y r ih =>
      intro d hd
      simp only [Rows.uptoBulkAll]
      rcases List.mem_cons.1 hd with rfl | hd
      · omega
      · have := ih d hd; omega
  have := key (xs.map (·.1)) xs[i].1 (List.mem_map.2 ⟨_, List.getElem_mem hlt, rfl⟩)
  simp only [Rows.uptoBulk]
  omega
theorem cut_drop (l : List Value) (a n m : Nat) (hm : a + n = m) : l.drop a = (l.drop a).take n ++ l.drop m := by
  subst hm
  rw [← List.drop_drop, List.take_append_drop]

theorem blk_fields : (Try.prog.fieldsOf 27).toList.map (fun f => (f.type, f.offset)) = [(22, 0), (24, 1), (24, 33), (3, 65), (3, 66), (25, 67)] := by kernel_rfl
theorem blk_under : Try.prog.underlying 27 = some (.struct (Try.prog.fieldsOf 27)) := by kernel_rfl
theorem com_fields : (Try.prog.fieldsOf 30).toList.map (fun f => (f.type, f.offset)) = [(22, 0), (3, 1), (24, 2), (28, 34)] := by kernel_rfl
theorem com_under : Try.prog.underlying 30 = some (.struct (Try.prog.fieldsOf 30)) := by kernel_rfl
theorem cells_hash : Try.prog.cellsOf 24 = 32 := by kernel_rfl
theorem cells_sig : Try.prog.cellsOf 92 = 64 := by kernel_rfl
theorem cells_int : Try.prog.cellsOf 3 = 1 := by kernel_rfl
theorem cells_u64 : Try.prog.cellsOf 22 = 1 := by kernel_rfl
theorem cells_u8 : Try.prog.cellsOf 5 = 1 := by kernel_rfl
theorem cells_strs : Try.prog.cellsOf 25 = 1 := by kernel_rfl
theorem cells_vots : Try.prog.cellsOf 28 = 1 := by kernel_rfl
theorem cells_blk : Try.prog.cellsOf 27 = 68 := by kernel_rfl
theorem cells_com : Try.prog.cellsOf 30 = 35 := by kernel_rfl
theorem cells_vote : Try.prog.cellsOf 94 = 100 := by kernel_rfl

theorem open_i {k : IntKind} {t : TypeId} (ht : Try.prog.underlying t = some (.int k)) (h : DataW.trod enc Try.prog W 0 spare held fuel t cs = some x) : ∃ n, cs = [.int k n] ∧ (Lit.int k n).wf = true := by
  obtain ⟨n, h1, _, h2⟩ := DataW.trod_int ht h
  exact ⟨n, h1, h2⟩

theorem open_block (h : DataW.trod enc Try.prog W 0 spare held fuel 27 cs = some x) (hb : Rows.uptoBulk x.1 ≤ 1048576) :
    ∃ b A cap vals, cs = blkV b (.slice A b.txs.length cap) ∧ b.Ok ∧ Rd 0 W A vals ∧ StrsR 0 W b.txs vals := by
  obtain ⟨hlen, hp⟩ := struct_parts blk_under blk_fields h
  rw [cells_blk] at hlen
  obtain ⟨y0, n0, h0, _⟩ := hp 0 _ _ rfl
  obtain ⟨y1, n1, h1, _⟩ := hp 1 _ _ rfl
  obtain ⟨y2, n2, h2, _⟩ := hp 2 _ _ rfl
  obtain ⟨y3, n3, h3, _⟩ := hp 3 _ _ rfl
  obtain ⟨y4, n4, h4, _⟩ := hp 4 _ _ rfl
  obtain ⟨y5, n5, h5, hb5⟩ := hp 5 _ _ rfl
  rw [cells_u64] at h0
  rw [cells_hash] at h1 h2
  rw [cells_int] at h3 h4
  rw [cells_strs] at h5
  obtain ⟨ht, e0, w0⟩ := open_i Try.underlying22 h0
  obtain ⟨p, lp, e1⟩ := open_arr Try.underlying24 cells_hash cells_u8 h1
  obtain ⟨s, ls, e2⟩ := open_arr Try.underlying24 cells_hash cells_u8 h2
  obtain ⟨pr, e3, w3⟩ := open_i Try.underlying3 h3
  obtain ⟨rd, e4, w4⟩ := open_i Try.underlying3 h4
  obtain ⟨A, cap, vals, txs, e5, _, hr, hs, hn, ht1⟩ := open_strs h5
  have b0 := bounds_u64 w0
  have b3 := bounds_i64 w3
  have b4 := bounds_i64 w4
  refine ⟨⟨ht, p, s, pr, rd, txs⟩, A, cap, vals, ?_, ⟨lp, ls, b0.1, b0.2, b3.2, b4.2, by simp only; omega, fun t h => by have := ht1 t h; omega⟩, hr, hs⟩
  have c0 := cut_drop cs 0 1 1 rfl
  have c1 := cut_drop cs 1 32 33 rfl
  have c2 := cut_drop cs 33 32 65 rfl
  have c3 := cut_drop cs 65 1 66 rfl
  have c4 := cut_drop cs 66 1 67 rfl
  have c5 := cut_drop cs 67 1 68 rfl
  rw [List.drop_eq_nil_of_le (by omega : cs.length ≤ 68)] at c5
  rw [List.drop_zero] at c0
  rw [List.drop_zero] at e0
  rw [c0, c1, c2, c3, c4, c5, e0, e1, e2, e3, e4, e5]
  simp [blkV]

theorem open_vote (h : DataW.trod enc Try.prog W 0 spare held fuel 94 cs = some x) : ∃ v : VotI, cs = v.cells ∧ v.Ok := by
  obtain ⟨hlen, hp⟩ := struct_parts vote_under vote_fields h
  rw [cells_vote] at hlen
  obtain ⟨y0, n0, h0, _⟩ := hp 0 _ _ rfl
  obtain ⟨y1, n1, h1, _⟩ := hp 1 _ _ rfl
  obtain ⟨y2, n2, h2, _⟩ := hp 2 _ _ rfl
  obtain ⟨y3, n3, h3, _⟩ := hp 3 _ _ rfl
  obtain ⟨y4, n4, h4, _⟩ := hp 4 _ _ rfl
  obtain ⟨y5, n5, h5, _⟩ := hp 5 _ _ rfl
  rw [cells_int] at h0 h2 h4
  rw [cells_u64] at h1
  rw [cells_hash] at h3
  rw [cells_sig] at h5
  obtain ⟨kd, e0, w0⟩ := open_i Try.underlying3 h0
  obtain ⟨ht, e1, w1⟩ := open_i Try.underlying22 h1
  obtain ⟨rd, e2, w2⟩ := open_i Try.underlying3 h2
  obtain ⟨bl, l3, e3⟩ := open_arr Try.underlying24 cells_hash cells_u8 h3
  obtain ⟨by_, e4, w4⟩ := open_i Try.underlying3 h4
  obtain ⟨sg, l5, e5⟩ := open_arr Try.underlying92 cells_sig cells_u8 h5
  have b0 := bounds_i64 w0
  have b1 := bounds_u64 w1
  have b2 := bounds_i64 w2
  have b4 := bounds_i64 w4
  refine ⟨⟨kd, ht, rd, bl, by_, sg⟩, ?_, ⟨l3, l5, b1.1, b1.2, b0.2, b2.2, b4.2⟩⟩
  have c0 := cut_drop cs 0 1 1 rfl
  have c1 := cut_drop cs 1 1 2 rfl
  have c2 := cut_drop cs 2 1 3 rfl
  have c3 := cut_drop cs 3 32 35 rfl
  have c4 := cut_drop cs 35 1 36 rfl
  have c5 := cut_drop cs 36 64 100 rfl
  rw [List.drop_eq_nil_of_le (by omega : cs.length ≤ 100)] at c5
  rw [List.drop_zero] at c0
  rw [List.drop_zero] at e0
  rw [c0, c1, c2, c3, c4, c5, e0, e1, e2, e3, e4, e5]
  simp [VotI.cells, votV]

theorem open_votes (h : DataW.trod enc Try.prog W 0 spare held fuel 28 cs = some x) : ∃ A cap, ∃ l : List VotI, cs = [.slice A l.length cap] ∧ Rd 0 W A (votsV l) ∧ (∀ v ∈ l, v.Ok) ∧ l.length ≤ Rows.uptoBulk x.1 := by
  obtain ⟨A, len, cap, rfl, hl, _, hx⟩ := open_row Try.underlying28 (k := 100) cells_vote (by decide) h
  rcases hx with rfl | ⟨b, o, rfl, D, Pl, n, rest, hx, hel⟩
  · exact ⟨A, cap, [], rfl, Rd.nil _ _ _, by simp, Nat.zero_le _⟩
  · obtain ⟨l, hll, hp⟩ := choose_list (P := fun i (v : VotI) => (∀ j, j < 100 → W.cell? ⟨b, o + i * 100 + j, none⟩ = v.cells[j]?) ∧ v.Ok) len (fun i hi => by
      obtain ⟨cs', h1, h2, h3⟩ := hel i hi
      obtain ⟨v, h4, h5⟩ := open_vote h3
      exact ⟨v, by rw [← h4]; exact h2, h5⟩)
    have hok : ∀ v ∈ l, v.Ok := fun v hv => by
      obtain ⟨i, hi, rfl⟩ := List.getElem_of_mem hv
      exact (hp i hi).2
    refine ⟨some ⟨b, o, none⟩, cap, l, by rw [hll], Or.inr ⟨b, o, Nat.zero_le _, rfl, fun k hk => ?_⟩, hok, ?_⟩
    · rw [votsV_length hok] at hk
      have h1 : k / 100 < l.length := by omega
      have h2 : k % 100 < 100 := by omega
      have h3 : k = k / 100 * 100 + k % 100 := by omega
      rw [h3, votsV_get hok (k / 100) h1 (k % 100) h2, ← (hp (k / 100) h1).1 (k % 100) h2, Nat.add_assoc]
    · rw [hx, hll]
      by_cases h0 : len = 0
      · omega
      · have := bulk_range (D := D) len 0 (by omega)
        have h1 : 1 ≤ Rows.uptoBulk (D 0) := by
          cases D 0 with
          | lit l => cases l <;> simp [Rows.uptoBulk]
          | _ => simp [Rows.uptoBulk]
        simp only [Rows.uptoBulk]
        omega

theorem open_commit (h : DataW.trod enc Try.prog W 0 spare held fuel 30 cs = some x) (hb : Rows.uptoBulk x.1 ≤ 1048576) :
    ∃ (c : ComI) (A : Option Addr) (cap : Nat), cs = comV c.height c.round c.block (.slice A c.votes.length cap) ∧ c.Ok ∧ Rd 0 W A (votsV c.votes) := by
  obtain ⟨hlen, hp⟩ := struct_parts com_under com_fields h
  rw [cells_com] at hlen
  obtain ⟨y0, n0, h0, _⟩ := hp 0 _ _ rfl
  obtain ⟨y1, n1, h1, _⟩ := hp 1 _ _ rfl
  obtain ⟨y2, n2, h2, _⟩ := hp 2 _ _ rfl
  obtain ⟨y3, n3, h3, hb3⟩ := hp 3 _ _ rfl
  rw [cells_u64] at h0
  rw [cells_int] at h1
  rw [cells_hash] at h2
  rw [cells_vots] at h3
  obtain ⟨ht, e0, w0⟩ := open_i Try.underlying22 h0
  obtain ⟨rd, e1, w1⟩ := open_i Try.underlying3 h1
  obtain ⟨bl, l2, e2⟩ := open_arr Try.underlying24 cells_hash cells_u8 h2
  obtain ⟨A, cap, vs, e3, hr, hok, hn⟩ := open_votes h3
  have b0 := bounds_u64 w0
  have b1 := bounds_i64 w1
  refine ⟨⟨ht, rd, bl, vs⟩, A, cap, ?_, ⟨l2, b0.1, b0.2, b1.2, hok, by simp only; omega⟩, hr⟩
  have c0 := cut_drop cs 0 1 1 rfl
  have c1 := cut_drop cs 1 1 2 rfl
  have c2 := cut_drop cs 2 32 34 rfl
  have c3 := cut_drop cs 34 1 35 rfl
  rw [List.drop_eq_nil_of_le (by omega : cs.length ≤ 35)] at c3
  rw [List.drop_zero] at c0
  rw [List.drop_zero] at e0
  rw [c0, c1, c2, c3, e0, e1, e2, e3]
  simp [comV]
end
end Go.Proofs.Ytildkoabfdfjlaa
