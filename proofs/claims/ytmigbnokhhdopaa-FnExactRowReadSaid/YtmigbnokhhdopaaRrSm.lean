import Derived.Test.YtmigbnokhhdopaaRrSz
import Derived.Test.YtmigbnokhhdopaaRrEvH
namespace Go.Ev.T1
open Go Go.Proofs
theorem smt_Column {n : Nat} {x : y11q} (h : SmT n T58 x) : Sm_Column n x:=by
 obtain ⟨h0,h1,h2,_,_⟩:=h
 exact ⟨h0,h1,h2⟩
theorem smt_Index {n : Nat} {x : y16q} (h : SmT n T71 x) : Sm_Index n x:=by
 obtain ⟨h0,h1,h2,_,h4,_,_⟩:=h
 exact ⟨h0,h1,⟨h2.1,fun y hy=>(h2.2 y hy)⟩,h4⟩
theorem smt_LTable {n : Nat} {x : DLTable} (h : SmT n T25 x) : Sm_LTable n x:=by
 obtain ⟨h0,h1,h2,h3,h4,h5,_⟩:=h
 exact ⟨h0,h1,h2,⟨h3.1,fun y hy=>smt_Column (h3.2 y hy)⟩,⟨h4.1,fun y hy=>(h4.2 y hy)⟩,⟨h5.1,fun y hy=>smt_Index (h5.2 y hy)⟩⟩
theorem smt_Pair {n : Nat} {x : DPair} (h : SmT n T27 x) : Sm_Pair n x:=by
 obtain ⟨h0,h1,_⟩:=h
 exact ⟨h0,h1⟩
theorem smt_Value {n : Nat} {x : y0q} (h : SmT n T51 x) : Sm_Value n x:=by
 obtain ⟨h0,h1,h2,h3,_⟩:=h
 exact ⟨h0,h1,h2,h3⟩
theorem smt_Table {n : Nat} {x : y6q} (h : SmT n T36 x) : Sm_Table n x:=by
 obtain ⟨h0,h1,h2,h3,h4,h5,_⟩:=h
 exact ⟨h0,h1,h2,⟨h3.1,fun y hy=>smt_Column (h3.2 y hy)⟩,⟨h4.1,fun y hy=>(h4.2 y hy)⟩,⟨h5.1,fun y hy=>smt_Index (h5.2 y hy)⟩⟩
end Go.Ev.T1
