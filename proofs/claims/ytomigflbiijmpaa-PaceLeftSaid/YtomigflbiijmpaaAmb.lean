/- THE ABSTRACT MEMORY, ITS STEPS: new memory, a block written or longer, a block moved, one that is no longer spoken of: what was held is still held. -/
import Derived.Test.YtomigflbiijmpaaAma
namespace Go.Proofs.Ytomigflbiijmpaa.Am

def upd (ρ : Nat → Rep) (b : Nat) (r : Rep) : Nat → Rep := fun i => if i = b then r else ρ i
theorem upd_same (ρ : Nat → Rep) (b : Nat) (r : Rep) : upd ρ b r b = r := by simp [upd]
theorem upd_ne (ρ : Nat → Rep) {b i : Nat} (r : Rep) (h : i ≠ b) : upd ρ b r i = ρ i := by simp [upd, h]

theorem get_append_lt {m : Mem} {b : Nat} (x : Mem) (h : b < m.length) : Mem.get (m ++ x) b = m.get b := by
  simp [Mem.get, List.getElem?_append_left h]
theorem get_append_at (m : Mem) (x : Option (List AV)) : Mem.get (m ++ [x]) m.length = x := by
  simp [Mem.get]
theorem get_append_gt {m : Mem} {b : Nat} (x : Option (List AV)) (h : m.length < b) : Mem.get (m ++ [x]) b = none := by
  simp [Mem.get]; rw [List.getElem?_eq_none (by simp; omega)]; rfl
theorem get_set_same {m : Mem} {b : Nat} (x : Option (List AV)) (h : b < m.length) : Mem.get (m.set b x) b = x := by
  simp [Mem.get, h]
theorem get_set_ne {m : Mem} {b i : Nat} (x : Option (List AV)) (h : i ≠ b) : Mem.get (m.set b x) i = m.get i := by
  simp [Mem.get, List.getElem?_set_ne (Ne.symm h)]
theorem get_cases {m : Mem} {x : Option (List AV)} {b : Nat} {B : List AV} (h : Mem.get (m ++ [x]) b = some B) : (b < m.length ∧ m.get b = some B) ∨ (b = m.length ∧ x = some B) := by
  rcases Nat.lt_trichotomy b m.length with h' | h' | h'
  · exact .inl ⟨h', by rwa [get_append_lt _ h'] at h⟩
  · subst h'; exact .inr ⟨rfl, by rwa [get_append_at] at h⟩
  · rw [get_append_gt x h'] at h; simp at h

section
variable {w0 : World} {κ : Ctx}

/-- Only the tape has gone on. -/
theorem step_tape (h : Sat w0 κ) {w' : World} (hw : w'.heap = κ.w.heap) (hsd : Side κ.w w') : Fr κ ⟨κ.ρ, κ.m, w'⟩ ∧ Sat w0 ⟨κ.ρ, κ.m, w'⟩ := by
  have hf : Fr κ ⟨κ.ρ, κ.m, w'⟩ := ⟨by simp [hw], fun i _ _ => by simp [hw], Nat.le_refl _, fun b _ B hB => ⟨B, hB, Nat.le_refl _, fun _ => rfl⟩, fun b B hB h0 => .inl ⟨B, hB, h0, rfl⟩, Kept.heap hw hsd⟩
  refine ⟨hf, by rw [hw]; exact h.old, fun i hi => by rw [hw]; exact h.same i hi, fun b B hB => ?_, h.ne⟩
  rcases h.blk b B hB with h0 | ⟨h0, h1, c, e, h2, h3, h4, h5⟩
  · exact .inl h0
  refine .inr ⟨h0, h1, c, e, by rw [hw]; exact h2, h3, h4, fun i x hi hx => ?_⟩
  obtain ⟨v, hv, ho, he⟩ := h5 i x hi hx
  exact ⟨v, hv, ho, E.mono hf x he⟩

/-- A new block: 'r' says where it is. -/
theorem step_new' (h : Sat w0 κ) {w' : World} {r : Rep} (cs : List AV) (hkp : Kept κ.w w') (hold : ∀ i, i < κ.w.heap.size → w'.heap[i]? = κ.w.heap[i]?) (hsz : κ.w.heap.size ≤ w'.heap.size)
    (hr : r.size ≠ 0 → κ.w.heap.size ≤ r.blk)
    (hb : (r.size = 0 ∧ cs = []) ∨ r.size ≠ 0 ∧ ∃ c e, w'.heap[r.blk]? = some (.cells c e (0, 0)) ∧ c.size = r.size ∧ cs.length ≤ c.size ∧ r.shift = 0 ∧ ∀ (i : Nat) (x : AV), cs[i]? = some x → ∃ v, c[i]? = some v ∧ v.oneCell' = true ∧ E κ x v) :
    Fr κ ⟨upd κ.ρ κ.m.length r, κ.m ++ [some cs], w'⟩ ∧ Sat w0 ⟨upd κ.ρ κ.m.length r, κ.m ++ [some cs], w'⟩ := by
  have hf : Fr κ ⟨upd κ.ρ κ.m.length r, κ.m ++ [some cs], w'⟩ := by
    refine ⟨hsz, fun i hi _ => hold i hi, by simp, fun b hb B' hB' => ?_, fun b B' hB' h0 => ?_, hkp⟩
    · rw [get_append_lt _ hb] at hB'
      exact ⟨B', hB', Nat.le_refl _, fun _ => upd_ne _ _ (by omega)⟩
    · replace h0 : (upd κ.ρ κ.m.length r b).size ≠ 0 := h0
      show _ ∨ κ.w.heap.size ≤ (upd κ.ρ κ.m.length r b).blk
      rcases get_cases hB' with ⟨hb, hg⟩ | ⟨hb, _⟩
      · rw [upd_ne _ _ (by omega)] at h0
        refine .inl ⟨B', hg, h0, ?_⟩
        show (upd κ.ρ κ.m.length _ b).blk = _
        rw [upd_ne _ _ (by omega)]
      · rw [hb, upd_same] at h0 ⊢
        exact .inr (hr h0)
  refine ⟨hf, Nat.le_trans h.old hsz, fun i hi => ?_, fun b B hB => ?_, fun b b' B B' hbb hB hB' h0 h0' => ?_⟩
  · have := h.old
    exact (hold i (by omega)).trans (h.same i hi)
  · rcases get_cases hB with ⟨hb', hg⟩ | ⟨hb', hx⟩
    · rcases h.blk b B hg with h0 | ⟨h0, h1, c1, e1, h2, h3, h4, h5⟩
      · left
        show (upd κ.ρ κ.m.length r b).size = 0 ∧ _
        rw [upd_ne _ _ (by omega)]; exact h0
      right
      have hlt := h.lt hg h0
      show (upd κ.ρ κ.m.length r b).size ≠ 0 ∧ w0.heap.size ≤ (upd κ.ρ κ.m.length r b).blk ∧ _
      simp only [upd_ne κ.ρ (b := κ.m.length) (i := b) _ (by omega)]
      refine ⟨h0, h1, c1, e1, (hold _ hlt).trans h2, h3, h4, fun i x hi hx => ?_⟩
      obtain ⟨v, hv, ho, he⟩ := h5 i x hi hx
      exact ⟨v, hv, ho, E.mono hf x he⟩
    · subst hb'
      injection hx with hx
      subst hx
      show ((upd κ.ρ κ.m.length r κ.m.length).size = 0 ∧ _) ∨ (upd κ.ρ κ.m.length r κ.m.length).size ≠ 0 ∧ w0.heap.size ≤ (upd κ.ρ κ.m.length r κ.m.length).blk ∧ _
      simp only [upd_same]
      rcases hb with hb | ⟨h0, c, e, h1, h2, h3, h4, h5⟩
      · exact .inl hb
      refine .inr ⟨h0, Nat.le_trans h.old (hr h0), c, e, h1, h2, by omega, fun i x _ hx => ?_⟩
      obtain ⟨v, hv, ho, he⟩ := h5 i x hx
      exact ⟨v, by rw [h4]; exact hv, ho, E.mono hf x he⟩
  · replace h0 : (upd κ.ρ κ.m.length r b).size ≠ 0 := h0
    replace h0' : (upd κ.ρ κ.m.length r b').size ≠ 0 := h0'
    show (upd κ.ρ κ.m.length _ b).blk ≠ (upd κ.ρ κ.m.length _ b').blk
    rcases get_cases hB with ⟨hb, hg⟩ | ⟨hb, _⟩ <;> rcases get_cases hB' with ⟨hb', hg'⟩ | ⟨hb', _⟩
    · rw [upd_ne _ _ (by omega)] at h0 h0' ⊢; rw [upd_ne _ _ (by omega)]; exact h.ne b b' B B' hbb hg hg' h0 h0'
    · rw [hb', upd_same] at h0' ⊢; rw [upd_ne _ _ (by omega)] at h0 ⊢; have := h.lt hg h0; have := hr h0'; omega
    · rw [hb, upd_same] at h0 ⊢; rw [upd_ne _ _ (by omega)] at h0' ⊢; have := h.lt hg' h0'; have := hr h0; omega
    · omega

/-- New memory. -/
theorem step_new (h : Sat w0 κ) {w' : World} {c : Array Value} {e : TypeId} (cs : List AV) (hw : w'.heap = κ.w.heap.push (.cells c e (0, 0))) (hsd : Side κ.w w') (hl : cs.length ≤ c.size)
    (hE : ∀ (i : Nat) (x : AV), cs[i]? = some x → ∃ v, c[i]? = some v ∧ v.oneCell' = true ∧ E κ x v) :
    Fr κ ⟨upd κ.ρ κ.m.length ⟨κ.w.heap.size, 0, c.size⟩, κ.m ++ [some cs], w'⟩ ∧ Sat w0 ⟨upd κ.ρ κ.m.length ⟨κ.w.heap.size, 0, c.size⟩, κ.m ++ [some cs], w'⟩ := by
  refine step_new' h cs (Kept.push hw hsd) (fun i hi => by rw [hw, Array.getElem?_push_lt hi, Array.getElem?_eq_getElem hi]) (by simp [hw]) (fun _ => Nat.le_refl _) ?_
  by_cases h0 : c.size = 0
  · exact .inl ⟨h0, List.length_eq_zero_iff.1 (by omega)⟩
  · exact .inr ⟨h0, c, e, by simp [hw], rfl, hl, rfl, hE⟩

/-- A block that is nowhere, and empty. -/
theorem step_none (h : Sat w0 κ) : Fr κ ⟨upd κ.ρ κ.m.length ⟨0, 0, 0⟩, κ.m ++ [some []], κ.w⟩ ∧ Sat w0 ⟨upd κ.ρ κ.m.length ⟨0, 0, 0⟩, κ.m ++ [some []], κ.w⟩ :=
  step_new' h [] (Kept.refl _) (fun _ _ => rfl) (Nat.le_refl _) (fun h0 => absurd rfl h0) (.inl ⟨rfl, rfl⟩)

/-- A block is written, or longer, where it is. -/
theorem step_set (h : Sat w0 κ) {b : Nat} {B B' : List AV} (hb : κ.m.get b = some B) (h0 : (κ.ρ b).size ≠ 0) {w' : World} {c' : Array Value} {e' : TypeId} (hsd : Side κ.w w') (hlen : B.length ≤ B'.length)
    (hs : w'.heap.size = κ.w.heap.size) (hat : w'.heap[(κ.ρ b).blk]? = some (.cells c' e' (0, 0))) (hoth : ∀ i, i ≠ (κ.ρ b).blk → w'.heap[i]? = κ.w.heap[i]?)
    (hc : c'.size = (κ.ρ b).size) (hl : B'.length ≤ (κ.ρ b).shift + c'.size)
    (hE : ∀ (i : Nat) (x : AV), (κ.ρ b).shift ≤ i → B'[i]? = some x → ∃ v, c'[i - (κ.ρ b).shift]? = some v ∧ v.oneCell' = true ∧ E κ x v) :
    Fr κ ⟨κ.ρ, κ.m.set b (some B'), w'⟩ ∧ Sat w0 ⟨κ.ρ, κ.m.set b (some B'), w'⟩ := by
  have hblt := Mem.get_lt hb
  have hgo : ∀ i B'', Mem.get (κ.m.set b (some B')) i = some B'' → (i = b ∧ B'' = B') ∨ (i ≠ b ∧ κ.m.get i = some B'') := fun i B'' hi => by
    by_cases hib : i = b
    · subst hib; rw [get_set_same _ hblt] at hi; injection hi with hi; exact .inl ⟨rfl, hi.symm⟩
    · rw [get_set_ne _ hib] at hi; exact .inr ⟨hib, hi⟩
  have hf : Fr κ ⟨κ.ρ, κ.m.set b (some B'), w'⟩ := by
    refine ⟨by simp [hs], fun i _ hn => hoth i (fun e => hn b B hb h0 e.symm), by simp, fun i hi B'' hB'' => ?_, fun i B'' hB'' h00 => ?_, by obtain ⟨_, c0, e0, hc0, _⟩ := h.real hb h0; exact Kept.set hc0 hat hoth hsd⟩
    · rcases hgo i B'' hB'' with ⟨rfl, rfl⟩ | ⟨_, hg⟩
      · exact ⟨B, hb, hlen, fun _ => rfl⟩
      · exact ⟨B'', hg, Nat.le_refl _, fun _ => rfl⟩
    · rcases hgo i B'' hB'' with ⟨rfl, rfl⟩ | ⟨_, hg⟩
      · exact .inl ⟨B, hb, h00, rfl⟩
      · exact .inl ⟨B'', hg, h00, rfl⟩
  refine ⟨hf, ?_, ?_, ?_, ?_⟩
  · show _ ≤ w'.heap.size
    rw [hs]; exact h.old
  · intro i hi
    have := (h.real hb h0).1
    exact (hoth i (by omega)).trans (h.same i hi)
  · intro i B'' hB''
    rcases hgo i B'' hB'' with ⟨rfl, rfl⟩ | ⟨hib, hg⟩
    · refine .inr ⟨h0, (h.real hb h0).1, c', e', hat, hc, hl, fun j x hj hx => ?_⟩
      obtain ⟨v, hv, ho, he⟩ := hE j x hj hx
      exact ⟨v, hv, ho, E.mono hf x he⟩
    · rcases h.blk i B'' hg with h1 | ⟨h1, h2, c1, e1, h3, h4, h5, h6⟩
      · exact .inl h1
      refine .inr ⟨h1, h2, c1, e1, (hoth _ (h.ne i b B'' B hib hg hb h1 h0)).trans h3, h4, h5, fun j x hj hx => ?_⟩
      obtain ⟨v, hv, ho, he⟩ := h6 j x hj hx
      exact ⟨v, hv, ho, E.mono hf x he⟩
  · intro i j B1 B2 hij h1 h2 h3 h4
    obtain ⟨B1', h1'⟩ : ∃ B, κ.m.get i = some B := (hgo i B1 h1).elim (fun e => ⟨B, e.1 ▸ hb⟩) fun e => ⟨B1, e.2⟩
    obtain ⟨B2', h2'⟩ : ∃ B, κ.m.get j = some B := (hgo j B2 h2).elim (fun e => ⟨B, e.1 ▸ hb⟩) fun e => ⟨B2, e.2⟩
    exact h.ne i j B1' B2' hij h1' h2' h3 h4

/-- A block is longer, in new memory. -/
theorem step_move (h : Sat w0 κ) {b : Nat} {B B' : List AV} (hb : κ.m.get b = some B) {w' : World} {c' : Array Value} {e' : TypeId} (hsd : Side κ.w w') (s : Nat) (hlen : B.length < B'.length) (hs : s ≤ B.length)
    (hw : w'.heap = κ.w.heap.push (.cells c' e' (0, 0))) (hl : B'.length ≤ s + c'.size)
    (hE : ∀ (i : Nat) (x : AV), s ≤ i → B'[i]? = some x → ∃ v, c'[i - s]? = some v ∧ v.oneCell' = true ∧ E κ x v) :
    Fr κ ⟨upd κ.ρ b ⟨κ.w.heap.size, s, c'.size⟩, κ.m.set b (some B'), w'⟩ ∧ Sat w0 ⟨upd κ.ρ b ⟨κ.w.heap.size, s, c'.size⟩, κ.m.set b (some B'), w'⟩ := by
  have hblt := Mem.get_lt hb
  have hold : ∀ i, i < κ.w.heap.size → w'.heap[i]? = κ.w.heap[i]? := fun i hi => by rw [hw, Array.getElem?_push_lt hi, Array.getElem?_eq_getElem hi]
  have hgo : ∀ i B'', Mem.get (κ.m.set b (some B')) i = some B'' → (i = b ∧ B'' = B') ∨ (i ≠ b ∧ κ.m.get i = some B'') := fun i B'' hi => by
    by_cases hib : i = b
    · subst hib; rw [get_set_same _ hblt] at hi; injection hi with hi; exact .inl ⟨rfl, hi.symm⟩
    · rw [get_set_ne _ hib] at hi; exact .inr ⟨hib, hi⟩
  have hf : Fr κ ⟨upd κ.ρ b ⟨κ.w.heap.size, s, c'.size⟩, κ.m.set b (some B'), w'⟩ := by
    refine ⟨by simp [hw], fun i hi _ => hold i hi, by simp, fun i hi B'' hB'' => ?_, fun i B'' hB'' h0 => ?_, Kept.push hw hsd⟩
    · rcases hgo i B'' hB'' with ⟨rfl, rfl⟩ | ⟨hib, hg⟩
      · exact ⟨B, hb, Nat.le_of_lt hlen, fun e => by omega⟩
      · exact ⟨B'', hg, Nat.le_refl _, fun _ => upd_ne _ _ hib⟩
    · replace h0 : (upd κ.ρ b ⟨κ.w.heap.size, s, c'.size⟩ i).size ≠ 0 := h0
      show _ ∨ κ.w.heap.size ≤ (upd κ.ρ b _ i).blk
      rcases hgo i B'' hB'' with ⟨rfl, rfl⟩ | ⟨hib, hg⟩
      · rw [upd_same]; exact .inr (Nat.le_refl _)
      · rw [upd_ne _ _ hib] at h0
        refine .inl ⟨B'', hg, h0, ?_⟩
        show (upd κ.ρ b _ i).blk = _
        rw [upd_ne _ _ hib]
  refine ⟨hf, ?_, ?_, ?_, ?_⟩
  · have := h.old; simp [hw]; omega
  · intro i hi
    have := h.old
    exact (hold i (by omega)).trans (h.same i hi)
  · intro i B'' hB''
    rcases hgo i B'' hB'' with ⟨rfl, rfl⟩ | ⟨hib, hg⟩
    · right
      show (upd κ.ρ i _ i).size ≠ 0 ∧ w0.heap.size ≤ (upd κ.ρ i _ i).blk ∧ _
      simp only [upd_same]
      refine ⟨by omega, h.old, c', e', by simp [hw], rfl, hl, fun j x hj hx => ?_⟩
      obtain ⟨v, hv, ho, he⟩ := hE j x hj hx
      exact ⟨v, hv, ho, E.mono hf x he⟩
    · show ((upd κ.ρ b _ i).size = 0 ∧ _) ∨ (upd κ.ρ b _ i).size ≠ 0 ∧ w0.heap.size ≤ (upd κ.ρ b _ i).blk ∧ _
      simp only [upd_ne κ.ρ (b := b) (i := i) _ hib]
      rcases h.blk i B'' hg with h1 | ⟨h1, h2, c1, e1, h3, h4, h5, h6⟩
      · exact .inl h1
      refine .inr ⟨h1, h2, c1, e1, (hold _ (h.lt hg h1)).trans h3, h4, h5, fun j x hj hx => ?_⟩
      obtain ⟨v, hv, ho, he⟩ := h6 j x hj hx
      exact ⟨v, hv, ho, E.mono hf x he⟩
  · intro i j B1 B2 hij h1 h2 h3 h4
    replace h3 : (upd κ.ρ b ⟨κ.w.heap.size, s, c'.size⟩ i).size ≠ 0 := h3
    replace h4 : (upd κ.ρ b ⟨κ.w.heap.size, s, c'.size⟩ j).size ≠ 0 := h4
    show (upd κ.ρ b _ i).blk ≠ (upd κ.ρ b _ j).blk
    rcases hgo i B1 h1 with ⟨rfl, rfl⟩ | ⟨hib, g1⟩ <;> rcases hgo j B2 h2 with ⟨rfl, rfl⟩ | ⟨hjb, g2⟩
    · omega
    · rw [upd_ne _ _ hjb] at h4 ⊢
      rw [upd_same]; exact Nat.ne_of_gt (h.lt g2 h4)
    · rw [upd_ne _ _ hib] at h3 ⊢
      rw [upd_same]; exact Nat.ne_of_lt (h.lt g1 h3)
    · rw [upd_ne _ _ hib] at h3 ⊢; rw [upd_ne _ _ hjb] at h4 ⊢; exact h.ne i j B1 B2 hij g1 g2 h3 h4

/-- A block is no longer spoken of. -/
theorem step_drop (h : Sat w0 κ) (b : Nat) : Fr κ ⟨κ.ρ, κ.m.set b none, κ.w⟩ ∧ Sat w0 ⟨κ.ρ, κ.m.set b none, κ.w⟩ := by
  have hg : ∀ i B, Mem.get (κ.m.set b none) i = some B → i ≠ b ∧ κ.m.get i = some B := fun i B hi => by
    by_cases hib : i = b
    · subst hib
      have hlt := Mem.get_lt hi
      rw [get_set_same _ (by simpa using hlt)] at hi; simp at hi
    · rw [get_set_ne _ hib] at hi; exact ⟨hib, hi⟩
  have hf : Fr κ ⟨κ.ρ, κ.m.set b none, κ.w⟩ :=
    ⟨Nat.le_refl _, fun _ _ _ => rfl, by simp, fun i _ B hB => ⟨B, (hg i B hB).2, Nat.le_refl _, fun _ => rfl⟩, fun i B hB h0 => .inl ⟨B, (hg i B hB).2, h0, rfl⟩, Kept.refl _⟩
  refine ⟨hf, h.old, h.same, fun i B hB => ?_, fun i j B1 B2 hij h1 h2 h3 h4 => h.ne i j B1 B2 hij (hg i B1 h1).2 (hg j B2 h2).2 h3 h4⟩
  rcases h.blk i B (hg i B hB).2 with h0 | ⟨h0, h1, c1, e1, h2, h3, h4, h5⟩
  · exact .inl h0
  refine .inr ⟨h0, h1, c1, e1, h2, h3, h4, fun j x hj hx => ?_⟩
  obtain ⟨v, hv, ho, he⟩ := h5 j x hj hx
  exact ⟨v, hv, ho, E.mono hf x he⟩
end
end Go.Proofs.Ytomigflbiijmpaa.Am
