/-
  A law's row: from a contract that turns nothing old and answers true, to what the row asks. No program in sight.
-/
import Derived.Test.YtalainpmlonahaaDoorMa
import Derived.WalkKit
import Derived.ProofKit
import Derived.OpenShut
import Derived.Deep.DeepHandedRow
import Derived.ChangeStays
namespace Go.Proofs.YtalainpmlonahaaDoor
open Go.RowKit Go.ChangeShapes Go.WideShapes Go.ChangeAt

section
variable {P : Program} {H : Type} {enc : TypeId × Value → H}
def noVoid (P : Program) : Bool := (List.range P.types.size).all fun t => match P.underlying t with | some (.slice e) => decide (0 < P.cellsOf e) | _ => true
theorem noVoid_spec (h : noVoid P = true) {t e : TypeId} (ht : t < P.types.size) (hu : P.underlying t = some (.slice e)) : 0 < P.cellsOf e := by
  have := List.all_eq_true.1 h t (List.mem_range.2 ht)
  rw [hu] at this
  simpa using this
theorem St.same {w0 w : World} {L : List Assn} (h : St w0 no L w) {p : MemPlace} (hp : p.block < w0.heap.size) : w0.sameAt w p := by
  have := h.keep p.block hp id
  cases p with
  | cell b o => simp only [MemPlace.block] at this; simp [World.sameAt, World.cell?, this]
  | map b => simp only [MemPlace.block] at this; simp [World.sameAt, this]
theorem trodAll_stays {W W' : World} {L : List Assn} (hst : St W no L W') (hl : laidOutB P = true) (hm : mapsRowed P = true) (hv : noVoid P = true) : ∀ {ts : List TypeId} {vs : List Value} {ds : List (DataW H)} {ps : List MemPlace}, (∀ t ∈ ts, t < P.types.size) →
    DataW.TrodAll enc P W 0 (fun _ => true) true ts vs ds ps → DataW.TrodAll enc P W' 0 (fun b => decide (b < W.heap.size)) true ts vs ds ps
  | [], [], [], ps, _, h => h
  | t :: ts, v :: vs, d :: ds, ps, ht, h => by
    obtain ⟨p, q, ⟨n, h1⟩, h2, rfl⟩ := h
    have hlt := DataW.trod_lt n t v.cells.toList (d, p) h1
    exact ⟨p, q, ⟨n, DataW.trod_stays (kids_rows hl hm) (fun ht hu => noVoid_spec hv ht hu) (fun h => by cases h) (ht t (by simp)) h1 (fun x hx => hst.same (hlt x hx)) (fun x hx => by simpa using hlt x hx)⟩,
      trodAll_stays hst hl hm hv (fun t h => ht t (by simp [h])) h2, rfl⟩
  | [], [], _ :: _, _, _, h => h.elim
  | [], _ :: _, _, _, _, h => h.elim
  | _ :: _, [], _, _, _, h => h.elim
  | _ :: _, _ :: _, [], _, _, h => h.elim
theorem St.keptBut {W W' : World} {L : List Assn} (hst : St W no L W') (may : MemPlace → Prop) : W.keptBut W' may := by
  refine ⟨hst.os, hst.output, fun i hi => ?_⟩
  have := hst.keep i hi id
  rw [this]
  cases W.heap[i]? with
  | none => rfl
  | some o => cases o <;> first | exact ⟨rfl, rfl, rfl, fun _ _ => rfl⟩ | exact .inr ⟨rfl, rfl⟩ | rfl
/-- what a law's row asks behind the call -/
theorem post_true {f : Func} {s : ChangeSpec} {W W' : World} {L : List Assn} {args : Array Value} {ds gs : List (DataW H)} {before : List MemPlace} {tb : TypeId} (hst : St W no L W')
    (hl : laidOutB P = true) (hm : mapsRowed P = true) (hv : noVoid P = true) (hts : ∀ t ∈ f.params.toList, t < P.types.size) (hr : f.resultTypes = #[tb]) (hb : P.underlying tb = some .bool) (hvars : s.vars = [])
    (hW : DataW.Whole enc P f.params.toList s.vars false W args.toList ds gs before) (hs : s.fn H (ds ++ gs) = { results := [.lit (.bool true)], args := ds }) :
    s.post enc P f false true false false W args (.bool true) W' := by
  obtain ⟨p, q, hA, hV, rfl, hfz, hnd⟩ := hW
  have hW' : DataW.Whole enc P f.params.toList s.vars false W args.toList ds gs (p ++ q) := ⟨p, q, hA, hV, rfl, hfz, hnd⟩
  refine ⟨ds, gs, p ++ q, [], p, [], hW', ?_, ?_, ?_, hst.keptBut _, fun h => by cases h⟩
  · rw [hr, hs]
    exact trodAll_mk1 (shut_bool hb true)
  · rw [hs]
    exact trodAll_stays hst hl hm hv hts hA
  · rw [hs, hvars]
    rfl
end
end Go.Proofs.YtalainpmlonahaaDoor
