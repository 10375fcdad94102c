/- append inside a region that draws its order. -/
import Derived.Test.YtpfgbbbjldpnnaaII
import Derived.Deep.RegionLaw
namespace Go.Proofs.Ytpfgbbbjldpnnaa
set_option linter.unusedSimpArgs false
set_option linter.unusedVariables false
open Go.RowKit

/-- a new block, ahead of the others -/
theorem St.newboxF {B : Nat} {w0 w : World} {L : List Ent} (h : St B w0 w L) (e : TypeId) (cs : Array Value) : St B w0 (w.alloc (.cells cs e)) (box e w.heap.size cs.toList :: L) :=
  (h.newbox e cs).perm (List.perm_append_comm (l₂ := [_]))

section
variable {P : Program} {ops : Array Oper} {o : Oper} {a : Act} {K : Act → World → Prop} {Q : Exit → Act → World → Prop} {E : Prop}

/-- append of a readable slice's elements to an owned row, as a step -/
theorem step_st_app {B : Nat} {w0 w : World} {L : List Ent} (hg : o.guard = none) (s x : Operand) (t : TypeId) (hop : o.op = .call { callee := .builtin .append, args := #[s, x], argTypes := #[t, t] })
    (e : TypeId) (z : Value) (bytes : Nat) (ht : P.underlying t = some (.slice e)) (hz : (P.info? e).map (fun i => (i.zero, i.size, i.bytes)) = some (some z, 1, bytes)) (hzs : z.cells.size = 1)
    (hS : St B w0 w L) (i : Nat) {v : Value} {us : List Value} (hi : L[i]? = some (row e v us)) (hs : a.eval s = v) (ad : Addr) (m c : Nat) (hx : a.eval x = .slice (some ad) m c)
    (news : List Value) (hl : news.length = m) (hnews : ∀ j u, news[j]? = some u → w.cell? (ad.add j) = some u)
    (h1 : ∀ u ∈ news, u.oneCell' = true) (hb : bytes ≤ 4096) (hN : us.length + m ≤ 4294967296)
    (hK : ∀ v' w', St B w0 w' (L.set i (row e v' (us ++ news))) → K (a.put o.dst v') w') :
    if Region.wanted o (yielded ops a.tmps) = true then Oper.wp P o a w K Q else E := by
  have hw : Region.wanted o (yielded ops a.tmps) = true := by simp [Region.wanted, hg]
  rw [if_pos hw]
  obtain ⟨v', w', hr, hS'⟩ := run_app (P := P) t o.type e z bytes ht hz hzs hS i hi ad m c news hl hnews h1 hb hN
  unfold Oper.wp execOp
  simp only [hop, resolve, invoke, builtin, Sem.run_bind, Sem.run_pure, Result.andThen_ok, List.map_toArray, List.map_cons, List.map_nil, hs, hx, hr]
  exact hK _ _ hS'
/-- append of what a slice reads as, as a step -/
theorem step_st_apps {B : Nat} {w0 w : World} {L : List Ent} (hg : o.guard = none) (s x : Operand) (t : TypeId) (hop : o.op = .call { callee := .builtin .append, args := #[s, x], argTypes := #[t, t] })
    (e : TypeId) (z : Value) (bytes : Nat) (ht : P.underlying t = some (.slice e)) (hz : (P.info? e).map (fun i => (i.zero, i.size, i.bytes)) = some (some z, 1, bytes)) (hzs : z.cells.size = 1)
    (hS : St B w0 w L) (i : Nat) {v : Value} {us : List Value} (hi : L[i]? = some (row e v us)) (hs : a.eval s = v) (vx : Value) (hx : a.eval x = vx)
    (news : List Value) (hr : Rd w vx news)
    (h1 : ∀ u ∈ news, u.oneCell' = true) (hb : bytes ≤ 4096) (hN : us.length + news.length ≤ 4294967296)
    (hK : ∀ v' w', St B w0 w' (L.set i (row e v' (us ++ news))) → K (a.put o.dst v') w') :
    if Region.wanted o (yielded ops a.tmps) = true then Oper.wp P o a w K Q else E := by
  obtain ⟨⟨ao, cap, rfl, hc1, hc2, hc3⟩, hcell⟩ := hr
  cases ao with
  | some ad =>
    refine step_st_app hg s x t hop e z bytes ht hz hzs hS i hi hs ad _ _ hx news rfl ?_ h1 hb hN hK
    intro j u hu
    exact hcell j u hu
  | none =>
    have hn : news = [] := by
      rcases hc3 with h | h
      · exact List.eq_nil_of_length_eq_zero h
      · exact absurd rfl h
    subst hn
    have hw : Region.wanted o (yielded ops a.tmps) = true := by simp [Region.wanted, hg]
    rw [if_pos hw]
    have hz' : (P.info? e).map (·.size) = some 1 := by
      obtain ⟨inf, hinf, hzz⟩ := Option.map_eq_some_iff.1 hz
      simp only [Prod.mk.injEq] at hzz
      rw [hinf]; simp [hzz.2.1]
    have hr := run_app0 (P := P) t o.type e ht hz' hS i hi cap
    have hK2 := hK v w (by
      have : L.set i (row e v (us ++ [])) = L := by
        obtain ⟨hlt, heq⟩ := List.getElem?_eq_some_iff.1 hi
        rw [List.append_nil, ← heq, List.set_getElem_self]
      rw [this]; exact hS)
    unfold Oper.wp execOp
    simp only [hop, resolve, invoke, builtin, Sem.run_bind, Sem.run_pure, Result.andThen_ok, List.map_toArray, List.map_cons, List.map_nil, hs, hx, hr, List.length_nil]
    exact hK2
theorem step_st_app1 {B : Nat} {w0 w : World} {L : List Ent} (hg : o.guard = none) (s x : Operand) (t : TypeId) (hop : o.op = .call { callee := .builtin .append, args := #[s, x], argTypes := #[t, t] })
    (e : TypeId) (z : Value) (bytes : Nat) (ht : P.underlying t = some (.slice e)) (hz : (P.info? e).map (fun i => (i.zero, i.size, i.bytes)) = some (some z, 1, bytes)) (hzs : z.cells.size = 1)
    (hS : St B w0 w L) (i : Nat) {v : Value} {us : List Value} (hi : L[i]? = some (row e v us)) (hs : a.eval s = v) (u : Value) (hx : a.eval x = .slice (some ⟨w.heap.size, 0, none⟩) 1 1)
    (h1 : u.oneCell' = true) (hb : bytes ≤ 4096) (hN : us.length < 4294967296)
    (hK : ∀ v' w', St B w0 w' (L.set i (row e v' (us ++ [u]))) → K (a.put o.dst v') w') :
    if Region.wanted o (yielded ops a.tmps) = true then Oper.wp P o a (w.alloc (.cells #[u] e)) K Q else E :=
  step_st_app hg s x t hop e z bytes ht hz hzs (hS.alloc' _) i hi hs ⟨w.heap.size, 0, none⟩ 1 1 hx [u] rfl (by
    intro j u' hu
    match j, hu with
    | 0, hu => simp at hu; subst hu; simp [Addr.add]) (by simpa using h1) hb (by omega) hK
end
section
variable {ops : Array Oper} {o : Oper} {a : Act} {K : Act → World → Prop} {Q : Exit → Act → World → Prop} {E : Prop} {B : Nat} {w0 w : World} {L : List Ent}
/-- append of one slice to an owned row of slices, as a step -/
theorem stepII (hS : St B w0 w L) (i : Nat) {v : Value} {us : List Value} (hi : L[i]? = some (row 24 v us)) (hN : us.length < 4294967296) (hg : o.guard = none) (s x : Operand)
    (hop : o.op = .call { callee := .builtin .append, args := #[s, x], argTypes := #[37, 37] }) (hs : a.eval s = v) (u : Value) (hu : u.oneCell' = true) (hx : a.eval x = .slice (some ⟨w.heap.size, 0, none⟩) 1 1)
    (hK : ∀ v' w', St B w0 w' (L.set i (row 24 v' (us ++ [u]))) → K (a.put o.dst v') w') :
    if Region.wanted o (yielded ops a.tmps) = true then Oper.wp Try.prog o a (w.alloc (.cells #[u] 24)) K Q else E :=
  step_st_app1 hg s x 37 hop 24 (.slice none 0 0) 24 Try.und_iss Try.info_is rfl hS i hi hs u hx hu (by omega) hN hK
/-- append of the integers of a slice to an owned row of integers, as a step -/
theorem stepsI (hS : St B w0 w L) (i : Nat) {v : Value} {xs : List Int} (hi : L[i]? = some (row 2 v (iv xs))) (vx : Value) (ys : List Int) (hr : RdI w vx ys) (hN : xs.length + ys.length ≤ 4294967296) (hg : o.guard = none) (s x : Operand)
    (hop : o.op = .call { callee := .builtin .append, args := #[s, x], argTypes := #[24, 24] }) (hs : a.eval s = v) (hx : a.eval x = vx)
    (hK : ∀ v' w', St B w0 w' (L.set i (row 2 v' (iv (xs ++ ys)))) → K (a.put o.dst v') w') :
    if Region.wanted o (yielded ops a.tmps) = true then Oper.wp Try.prog o a w K Q else E :=
  step_st_apps hg s x 24 hop 2 (.int .i64 0) 8 Try.und_is Try.info_i rfl hS i hi hs vx hx (iv ys) hr (by intro u hu; simp only [iv, List.mem_map] at hu; obtain ⟨n, _, rfl⟩ := hu; rfl) (by omega) (by rw [iv_len, iv_len]; exact hN)
    (fun v' w' h => hK v' w' (by rw [iv_app]; exact h))
/-- append of the slices of a slice to an owned row of slices, as a step -/
theorem stepsII (hS : St B w0 w L) (i : Nat) {v : Value} {us : List Value} (hi : L[i]? = some (row 24 v us)) (vx : Value) (ws : List Value) (hr : Rd w vx ws) (h1 : ∀ u ∈ ws, u.oneCell' = true) (hN : us.length + ws.length ≤ 4294967296) (hg : o.guard = none) (s x : Operand)
    (hop : o.op = .call { callee := .builtin .append, args := #[s, x], argTypes := #[37, 37] }) (hs : a.eval s = v) (hx : a.eval x = vx)
    (hK : ∀ v' w', St B w0 w' (L.set i (row 24 v' (us ++ ws))) → K (a.put o.dst v') w') :
    if Region.wanted o (yielded ops a.tmps) = true then Oper.wp Try.prog o a w K Q else E :=
  step_st_apps hg s x 37 hop 24 (.slice none 0 0) 24 Try.und_iss Try.info_is rfl hS i hi hs vx hx ws hr h1 (by omega) hN hK
end
end Go.Proofs.Ytpfgbbbjldpnnaa
