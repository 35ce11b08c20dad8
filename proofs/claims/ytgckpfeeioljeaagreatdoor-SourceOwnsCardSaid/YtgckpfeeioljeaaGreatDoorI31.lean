/- Each row has one owner: plain laws. -/
import Derived.Test.YtgckpfeeioljeaaGreatDoorG29
namespace Go.Proofs.YtgckpfeeioljeaaGreatDoor

theorem own_same {S : SrcM} {e : Ev} (ho : Once S.T) (hx : doX S e = 0) {c d : Cell} (hc : c ∈ S.T) (hd : d ∈ stepT e S.T) (hk : ck d = ck c) : d.subject = c.subject := by
  obtain ⟨hT, hput, hdel⟩ := doX_tell hx
  rcases stepT_mem hd with h | ⟨h1, h2⟩
  · rw [once_eq ho h hc hk]
  · subst h2
    have hf : findT (ek e) S.T = some c := by
      have := find_some ho hc
      rw [← hk] at this; exact this
    exact (txt_inj (hput h1 c hf)).symm
theorem own_left {S : SrcM} {e : Ev} (ho : Once S.T) (hx : doX S e = 0) {c : Cell} (hc : c ∈ S.T) (hn : ∀ d ∈ stepT e S.T, ck d ≠ ck c) : e.subject = c.subject := by
  obtain ⟨hT, hput, hdel⟩ := doX_tell hx
  rcases kind_cases (tellX_right hT).1 with hk | hk | hk
  · exfalso
    rw [stepT_put hk] at hn
    by_cases h : ck c = ek e
    · exact hn (cellE e) (by unfold putT; simp) h.symm
    · refine hn c ?_ rfl
      unfold putT delT
      refine List.mem_cons_of_mem _ (List.mem_filter.2 ⟨hc, ?_⟩)
      have : ck (cellE e) = ek e := rfl
      rw [this]; simpa using h
  · obtain ⟨d, hd, hs⟩ := hdel hk
    rw [stepT_del hk hd hs] at hn
    by_cases h : ck c = ek e
    · have hf := find_some ho hc
      rw [h, hd] at hf
      injection hf with hf
      subst hf
      exact (txt_inj hs).symm
    · exact absurd rfl (hn c (by unfold delT; exact List.mem_filter.2 ⟨hc, by simpa using h⟩))
  · rw [stepT_gone hk] at hn
    by_cases h : txt c.subject = txt e.subject
    · exact (txt_inj h).symm
    · exact absurd rfl (hn c (by unfold goneT; exact List.mem_filter.2 ⟨hc, by simpa using h⟩))
end Go.Proofs.YtgckpfeeioljeaaGreatDoor
