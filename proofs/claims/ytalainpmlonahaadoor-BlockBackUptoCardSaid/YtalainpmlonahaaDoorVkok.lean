/-
  What a row's laid variables say: the constants of the hash.
-/
import Derived.Test.YtalainpmlonahaaDoorVrow
import Derived.Test.YtalainpmlonahaaDoorVsha
import Derived.MakeChecks
set_option linter.all false
set_option maxRecDepth 100000
set_option maxHeartbeats 4000000
namespace Go.Proofs.YtalainpmlonahaaDoor
open Go.RowKit Go.ChangeShapes Go.WideShapes Go.ChangeAt Go.MakeChecks
theorem laid_mem {P : Program} {w : World} {n : String} {d : DataW Unit} : ∀ {l : List (String × DataW Unit)} {ps : List MemPlace}, DataW.LaidVars P w l ps → (n, d) ∈ l →
    ∃ g t cs fuel p, P.globalNamed n = some g ∧ (P.globals[g]?).map (·.type) = some t ∧ w.var? P n = some cs ∧ DataW.trod (fun _ => ()) P w 0 (fun _ => true) false fuel t cs.toList = some (d, p)
  | [], _, _, h => by cases h
  | (m, e) :: r, ps, ⟨g, t, cs, fuel, p, q, h1, h2, h3, h4, h5, _⟩, h => by
    rcases List.mem_cons.1 h with e1 | h
    · cases e1; exact ⟨g, t, cs, fuel, p, h1, h2, h3, h4⟩
    · exact laid_mem h5 h
theorem words_laid {P : Program} {w : World} {t e : TypeId} {n : Nat} {fuel : Nat} {cs : List Value} {ns : List Int} {p : List MemPlace} {held : Bool} (ht : P.underlying t = some (.array n e)) (he : P.underlying e = some (.int .u32)) (hc : P.cellsOf e = 1) (hct : P.cellsOf t = n)
    (h : DataW.trod (fun _ => ()) P w 0 (fun _ => true) held fuel t cs = some (.agg (ns.map fun n => .lit (.int .u32 n)), p)) : cs = ns.map (.int .u32 ·) := by
  obtain ⟨xs, m, _, e0, hlen, hxs, hel⟩ := DataW.trod_array ht h
  have e1 : ns.map (fun n => (DataW.lit (.int .u32 n) : DataW Unit)) = xs.map (·.1) := by simpa using congrArg Prod.fst e0
  have hnl : ns.length = n := by have := congrArg List.length e1; simp at this; omega
  apply List.ext_getElem?
  intro i
  by_cases hi : i < n
  · have h1 := hel i hi
    rw [hc, Nat.mul_one, List.getElem?_eq_getElem (by omega)] at h1
    obtain ⟨z, h2, h3, _⟩ := DataW.trod_int he (x := xs[i]) h1
    have h4 : cs[i]? = some (.int .u32 z) := by
      have := congrArg (·[0]?) h2
      simp only [List.getElem?_take_of_lt Nat.zero_lt_one, List.getElem?_drop, Nat.add_zero] at this
      simpa using this
    have h5 := congrArg (·[i]?) e1
    simp only [List.getElem?_map] at h5
    rw [List.getElem?_eq_getElem (by omega), List.getElem?_eq_getElem (by omega)] at h5
    simp only [Option.map_some, Option.some.injEq] at h5
    rw [h3] at h5
    have h6 : ns[i] = z := by simpa using h5
    rw [h4, List.getElem?_map, List.getElem?_eq_getElem (by omega), h6]; rfl
  · rw [List.getElem?_eq_none (by omega), List.getElem?_eq_none (by simp; omega)]
def laidK : List Int := [1116352408, 1899447441, 3049323471, 3921009573, 961987163, 1508970993, 2453635748, 2870763221, 3624381080, 310598401, 607225278, 1426881987, 1925078388, 2162078206, 2614888103, 3248222580, 3835390401, 4022224774, 264347078, 604807628, 770255983, 1249150122, 1555081692, 1996064986, 2554220882, 2821834349, 2952996808, 3210313671, 3336571891, 3584528711, 113926993, 338241895, 666307205, 773529912, 1294757372, 1396182291, 1695183700, 1986661051, 2177026350, 2456956037, 2730485921, 2820302411, 3259730800, 3345764771, 3516065817, 3600352804, 4094571909, 275423344, 430227734, 506948616, 659060556, 883997877, 958139571, 1322822218, 1537002063, 1747873779, 1955562222, 2024104815, 2227730452, 2361852424, 2428436474, 2756734187, 3204031479, 3329325298]
theorem laidK_all : RW.all shaK = laidK.map (.int .u32 ·) := by kernel_rfl
theorem laidK_eq : (Rows.laid_moneyer_sha_k : DataW Unit) = .agg (laidK.map fun n => .lit (.int .u32 n)) := rfl
/-- the constants of the hash lie where they are declared -/
theorem kok {l : List (String × DataW Unit)} {w : World} (hm : ("moneyer/sha.k", Rows.laid_moneyer_sha_k) ∈ l) (hp : (l.all fun x => x.2.handleName?.isNone) = true) (h : laidMetH Tryd.prog l w) : KOk w := by
  rw [laidMetH_plain _ _ _ hp] at h
  obtain ⟨ps, h1, _, _⟩ := h
  obtain ⟨g, t, cs, fuel, p, h2, h3, h4, h5⟩ := laid_mem h1 hm
  have hg : Tryd.prog.globalNamed "moneyer/sha.k" = some 1 := by kernel_rfl
  have ht : (Tryd.prog.globals[1]?).map (·.type) = some 188 := by kernel_rfl
  rw [hg] at h2
  obtain rfl := Option.some.inj h2
  rw [ht] at h3
  obtain rfl := Option.some.inj h3
  rw [laidK_eq] at h5
  have e := words_laid (n := 64) (e := 31) (by kernel_rfl) (by kernel_rfl) (by kernel_rfl) (by kernel_rfl) h5
  unfold World.var? at h4
  rw [hg] at h4
  simp only [Option.bind_some] at h4
  split at h4
  · rename_i cs' t' fr hh
    cases h4
    intro j u hj
    rw [laidK_all, ← e] at hj
    simp only [World.cell?, hh]
    simpa using hj
  · cases h4
end Go.Proofs.YtalainpmlonahaaDoor
