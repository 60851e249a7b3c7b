/- The types of the steps, as rows of cells. -/
import Derived.Test.YtpmgmingjggegaaEn
set_option linter.unusedVariables false
set_option maxRecDepth 8000
namespace Go.Proofs.Ytpmgmingjggegaa.AL
open Go
@[ext] structure TAddr where
  Kind : Int
  Id : Int
  deriving DecidableEq
def TAddr.row (x : TAddr) : List DV := [.int .i64 x.Kind, .int .i64 x.Id]
def TAddr.ct : List CT := [.i .i64, .i .i64]
structure TAddr.ok (x : TAddr) : Prop where
  Kind : okI .i64 x.Kind
  Id : okI .i64 x.Id
theorem TAddr.of_fit {r : List DV} (h0 : fitR TAddr.ct r) : ∃ x : TAddr, r = x.row ∧ x.ok := by
  unfold TAddr.ct at h0
  obtain ⟨_, _, rfl, f0, h1⟩ := fitR_cons h0
  obtain ⟨v0, rfl, o0⟩ := fitD_i f0
  obtain ⟨_, _, rfl, f1, h2⟩ := fitR_cons h1
  obtain ⟨v1, rfl, o1⟩ := fitD_i f1
  obtain rfl := fitR_nil h2
  exact ⟨⟨v0, v1⟩, rfl, ⟨o0, o1⟩⟩
@[ext] structure TPool where
  Size : Int
  Min : Int
  PGs : Int
  Domain : Int
  deriving DecidableEq
def TPool.row (x : TPool) : List DV := [.int .i64 x.Size, .int .i64 x.Min, .int .i64 x.PGs, .int .i64 x.Domain]
def TPool.ct : List CT := [.i .i64, .i .i64, .i .i64, .i .i64]
structure TPool.ok (x : TPool) : Prop where
  Size : okI .i64 x.Size
  Min : okI .i64 x.Min
  PGs : okI .i64 x.PGs
  Domain : okI .i64 x.Domain
theorem TPool.of_fit {r : List DV} (h0 : fitR TPool.ct r) : ∃ x : TPool, r = x.row ∧ x.ok := by
  unfold TPool.ct at h0
  obtain ⟨_, _, rfl, f0, h1⟩ := fitR_cons h0
  obtain ⟨v0, rfl, o0⟩ := fitD_i f0
  obtain ⟨_, _, rfl, f1, h2⟩ := fitR_cons h1
  obtain ⟨v1, rfl, o1⟩ := fitD_i f1
  obtain ⟨_, _, rfl, f2, h3⟩ := fitR_cons h2
  obtain ⟨v2, rfl, o2⟩ := fitD_i f2
  obtain ⟨_, _, rfl, f3, h4⟩ := fitR_cons h3
  obtain ⟨v3, rfl, o3⟩ := fitD_i f3
  obtain rfl := fitR_nil h4
  exact ⟨⟨v0, v1, v2, v3⟩, rfl, ⟨o0, o1, o2, o3⟩⟩
@[ext] structure TInc where
  Kind : Int
  Osd : Int
  Client : Int
  Num : Int
  Pool : TPool
  deriving DecidableEq
def TInc.row (x : TInc) : List DV := [.int .i64 x.Kind, .int .i64 x.Osd, .int .i64 x.Client, .int .i64 x.Num, .int .i64 x.Pool.Size, .int .i64 x.Pool.Min, .int .i64 x.Pool.PGs, .int .i64 x.Pool.Domain]
def TInc.ct : List CT := [.i .i64, .i .i64, .i .i64, .i .i64, .i .i64, .i .i64, .i .i64, .i .i64]
structure TInc.ok (x : TInc) : Prop where
  Kind : okI .i64 x.Kind
  Osd : okI .i64 x.Osd
  Client : okI .i64 x.Client
  Num : okI .i64 x.Num
  Pool : x.Pool.ok
theorem TInc.of_fit {r : List DV} (h0 : fitR TInc.ct r) : ∃ x : TInc, r = x.row ∧ x.ok := by
  unfold TInc.ct at h0
  obtain ⟨_, _, rfl, f0, h1⟩ := fitR_cons h0
  obtain ⟨v0, rfl, o0⟩ := fitD_i f0
  obtain ⟨_, _, rfl, f1, h2⟩ := fitR_cons h1
  obtain ⟨v1, rfl, o1⟩ := fitD_i f1
  obtain ⟨_, _, rfl, f2, h3⟩ := fitR_cons h2
  obtain ⟨v2, rfl, o2⟩ := fitD_i f2
  obtain ⟨_, _, rfl, f3, h4⟩ := fitR_cons h3
  obtain ⟨v3, rfl, o3⟩ := fitD_i f3
  obtain ⟨_, _, rfl, f4, h5⟩ := fitR_cons h4
  obtain ⟨v4, rfl, o4⟩ := fitD_i f4
  obtain ⟨_, _, rfl, f5, h6⟩ := fitR_cons h5
  obtain ⟨v5, rfl, o5⟩ := fitD_i f5
  obtain ⟨_, _, rfl, f6, h7⟩ := fitR_cons h6
  obtain ⟨v6, rfl, o6⟩ := fitD_i f6
  obtain ⟨_, _, rfl, f7, h8⟩ := fitR_cons h7
  obtain ⟨v7, rfl, o7⟩ := fitD_i f7
  obtain rfl := fitR_nil h8
  exact ⟨⟨v0, v1, v2, v3, ⟨v4, v5, v6, v7⟩⟩, rfl, ⟨o0, o1, o2, o3, ⟨o4, o5, o6, o7⟩⟩⟩
@[ext] structure TOp where
  Kind : Int
  Name : ByteArray
  Off : Int
  Num : Int
  Data : ByteArray
  deriving DecidableEq
def TOp.row (x : TOp) : List DV := [.int .i64 x.Kind, .str x.Name, .int .i64 x.Off, .int .i64 x.Num, .str x.Data]
def TOp.ct : List CT := [.i .i64, .s, .i .i64, .i .i64, .s]
structure TOp.ok (x : TOp) : Prop where
  Kind : okI .i64 x.Kind
  Name : okS x.Name
  Off : okI .i64 x.Off
  Num : okI .i64 x.Num
  Data : okS x.Data
theorem TOp.of_fit {r : List DV} (h0 : fitR TOp.ct r) : ∃ x : TOp, r = x.row ∧ x.ok := by
  unfold TOp.ct at h0
  obtain ⟨_, _, rfl, f0, h1⟩ := fitR_cons h0
  obtain ⟨v0, rfl, o0⟩ := fitD_i f0
  obtain ⟨_, _, rfl, f1, h2⟩ := fitR_cons h1
  obtain ⟨v1, rfl, o1⟩ := fitD_s f1
  obtain ⟨_, _, rfl, f2, h3⟩ := fitR_cons h2
  obtain ⟨v2, rfl, o2⟩ := fitD_i f2
  obtain ⟨_, _, rfl, f3, h4⟩ := fitR_cons h3
  obtain ⟨v3, rfl, o3⟩ := fitD_i f3
  obtain ⟨_, _, rfl, f4, h5⟩ := fitR_cons h4
  obtain ⟨v4, rfl, o4⟩ := fitD_s f4
  obtain rfl := fitR_nil h5
  exact ⟨⟨v0, v1, v2, v3, v4⟩, rfl, ⟨o0, o1, o2, o3, o4⟩⟩
@[ext] structure TFrag where
  Index : Int
  Off : Int
  Num : Int
  At : Int
  deriving DecidableEq
def TFrag.row (x : TFrag) : List DV := [.int .i64 x.Index, .int .i64 x.Off, .int .i64 x.Num, .int .i64 x.At]
def TFrag.ct : List CT := [.i .i64, .i .i64, .i .i64, .i .i64]
structure TFrag.ok (x : TFrag) : Prop where
  Index : okI .i64 x.Index
  Off : okI .i64 x.Off
  Num : okI .i64 x.Num
  At : okI .i64 x.At
theorem TFrag.of_fit {r : List DV} (h0 : fitR TFrag.ct r) : ∃ x : TFrag, r = x.row ∧ x.ok := by
  unfold TFrag.ct at h0
  obtain ⟨_, _, rfl, f0, h1⟩ := fitR_cons h0
  obtain ⟨v0, rfl, o0⟩ := fitD_i f0
  obtain ⟨_, _, rfl, f1, h2⟩ := fitR_cons h1
  obtain ⟨v1, rfl, o1⟩ := fitD_i f1
  obtain ⟨_, _, rfl, f2, h3⟩ := fitR_cons h2
  obtain ⟨v2, rfl, o2⟩ := fitD_i f2
  obtain ⟨_, _, rfl, f3, h4⟩ := fitR_cons h3
  obtain ⟨v3, rfl, o3⟩ := fitD_i f3
  obtain rfl := fitR_nil h4
  exact ⟨⟨v0, v1, v2, v3⟩, rfl, ⟨o0, o1, o2, o3⟩⟩
@[ext] structure TPart where
  Tid : Int
  Frag : TFrag
  deriving DecidableEq
def TPart.row (x : TPart) : List DV := [.int .i64 x.Tid, .int .i64 x.Frag.Index, .int .i64 x.Frag.Off, .int .i64 x.Frag.Num, .int .i64 x.Frag.At]
def TPart.ct : List CT := [.i .i64, .i .i64, .i .i64, .i .i64, .i .i64]
structure TPart.ok (x : TPart) : Prop where
  Tid : okI .i64 x.Tid
  Frag : x.Frag.ok
theorem TPart.of_fit {r : List DV} (h0 : fitR TPart.ct r) : ∃ x : TPart, r = x.row ∧ x.ok := by
  unfold TPart.ct at h0
  obtain ⟨_, _, rfl, f0, h1⟩ := fitR_cons h0
  obtain ⟨v0, rfl, o0⟩ := fitD_i f0
  obtain ⟨_, _, rfl, f1, h2⟩ := fitR_cons h1
  obtain ⟨v1, rfl, o1⟩ := fitD_i f1
  obtain ⟨_, _, rfl, f2, h3⟩ := fitR_cons h2
  obtain ⟨v2, rfl, o2⟩ := fitD_i f2
  obtain ⟨_, _, rfl, f3, h4⟩ := fitR_cons h3
  obtain ⟨v3, rfl, o3⟩ := fitD_i f3
  obtain ⟨_, _, rfl, f4, h5⟩ := fitR_cons h4
  obtain ⟨v4, rfl, o4⟩ := fitD_i f4
  obtain rfl := fitR_nil h5
  exact ⟨⟨v0, ⟨v1, v2, v3, v4⟩⟩, rfl, ⟨o0, ⟨o1, o2, o3, o4⟩⟩⟩
@[ext] structure TBan where
  Client : Int
  Inst : Int
  deriving DecidableEq
def TBan.row (x : TBan) : List DV := [.int .i64 x.Client, .int .i64 x.Inst]
def TBan.ct : List CT := [.i .i64, .i .i64]
structure TBan.ok (x : TBan) : Prop where
  Client : okI .i64 x.Client
  Inst : okI .i64 x.Inst
theorem TBan.of_fit {r : List DV} (h0 : fitR TBan.ct r) : ∃ x : TBan, r = x.row ∧ x.ok := by
  unfold TBan.ct at h0
  obtain ⟨_, _, rfl, f0, h1⟩ := fitR_cons h0
  obtain ⟨v0, rfl, o0⟩ := fitD_i f0
  obtain ⟨_, _, rfl, f1, h2⟩ := fitR_cons h1
  obtain ⟨v1, rfl, o1⟩ := fitD_i f1
  obtain rfl := fitR_nil h2
  exact ⟨⟨v0, v1⟩, rfl, ⟨o0, o1⟩⟩
@[ext] structure TJob where
  Kind : Int
  Off : Int
  Num : Int
  Data : ByteArray
  Force : Bool
  Phase : Int
  Parts : List TPart
  Out : ByteArray
  Err : Int
  Old : TBan
  deriving DecidableEq
def TJob.row (x : TJob) : List DV := [.int .i64 x.Kind, .int .i64 x.Off, .int .i64 x.Num, .str x.Data, .bool x.Force, .int .i64 x.Phase, .sl 5 (x.Parts.map TPart.row), .str x.Out, .int .i64 x.Err, .int .i64 x.Old.Client, .int .i64 x.Old.Inst]
def TJob.ct : List CT := [.i .i64, .i .i64, .i .i64, .s, .b, .i .i64, .sl [.i .i64, .i .i64, .i .i64, .i .i64, .i .i64], .s, .i .i64, .i .i64, .i .i64]
structure TJob.ok (x : TJob) : Prop where
  Kind : okI .i64 x.Kind
  Off : okI .i64 x.Off
  Num : okI .i64 x.Num
  Data : okS x.Data
  Phase : okI .i64 x.Phase
  Parts_len : x.Parts.length ≤ 1048576
  Parts : ∀ a ∈ x.Parts, a.ok
  Out : okS x.Out
  Err : okI .i64 x.Err
  Old : x.Old.ok
theorem TJob.of_fit {r : List DV} (h0 : fitR TJob.ct r) : ∃ x : TJob, r = x.row ∧ x.ok := by
  unfold TJob.ct at h0
  obtain ⟨_, _, rfl, f0, h1⟩ := fitR_cons h0
  obtain ⟨v0, rfl, o0⟩ := fitD_i f0
  obtain ⟨_, _, rfl, f1, h2⟩ := fitR_cons h1
  obtain ⟨v1, rfl, o1⟩ := fitD_i f1
  obtain ⟨_, _, rfl, f2, h3⟩ := fitR_cons h2
  obtain ⟨v2, rfl, o2⟩ := fitD_i f2
  obtain ⟨_, _, rfl, f3, h4⟩ := fitR_cons h3
  obtain ⟨v3, rfl, o3⟩ := fitD_s f3
  obtain ⟨_, _, rfl, f4, h5⟩ := fitR_cons h4
  obtain ⟨v4, rfl⟩ := fitD_b f4
  obtain ⟨_, _, rfl, f5, h6⟩ := fitR_cons h5
  obtain ⟨v5, rfl, o5⟩ := fitD_i f5
  obtain ⟨_, _, rfl, f6, h7⟩ := fitR_cons h6
  obtain ⟨v6, rfl, o6⟩ := fitD_sl (g := TPart.row) (φ := TPart.ok) f6 (fun r hr => TPart.of_fit hr)
  obtain ⟨_, _, rfl, f7, h8⟩ := fitR_cons h7
  obtain ⟨v7, rfl, o7⟩ := fitD_s f7
  obtain ⟨_, _, rfl, f8, h9⟩ := fitR_cons h8
  obtain ⟨v8, rfl, o8⟩ := fitD_i f8
  obtain ⟨_, _, rfl, f9, h10⟩ := fitR_cons h9
  obtain ⟨v9, rfl, o9⟩ := fitD_i f9
  obtain ⟨_, _, rfl, f10, h11⟩ := fitR_cons h10
  obtain ⟨v10, rfl, o10⟩ := fitD_i f10
  obtain rfl := fitR_nil h11
  exact ⟨⟨v0, v1, v2, v3, v4, v5, v6, v7, v8, ⟨v9, v10⟩⟩, rfl, ⟨o0, o1, o2, o3, o5, o6.1, o6.2, o7, o8, ⟨o9, o10⟩⟩⟩
@[ext] structure TStep where
  Kind : Int
  At : TAddr
  To : TAddr
  N : Int
  Pick : Int
  Inc : TInc
  Pool : Int
  Op : TOp
  Name : ByteArray
  Job : TJob
  deriving DecidableEq
def TStep.row (x : TStep) : List DV := [.int .i64 x.Kind, .int .i64 x.At.Kind, .int .i64 x.At.Id, .int .i64 x.To.Kind, .int .i64 x.To.Id, .int .i64 x.N, .int .u64 x.Pick, .int .i64 x.Inc.Kind, .int .i64 x.Inc.Osd, .int .i64 x.Inc.Client, .int .i64 x.Inc.Num, .int .i64 x.Inc.Pool.Size, .int .i64 x.Inc.Pool.Min, .int .i64 x.Inc.Pool.PGs, .int .i64 x.Inc.Pool.Domain, .int .i64 x.Pool, .int .i64 x.Op.Kind, .str x.Op.Name, .int .i64 x.Op.Off, .int .i64 x.Op.Num, .str x.Op.Data, .str x.Name, .int .i64 x.Job.Kind, .int .i64 x.Job.Off, .int .i64 x.Job.Num, .str x.Job.Data, .bool x.Job.Force, .int .i64 x.Job.Phase, .sl 5 (x.Job.Parts.map TPart.row), .str x.Job.Out, .int .i64 x.Job.Err, .int .i64 x.Job.Old.Client, .int .i64 x.Job.Old.Inst]
def TStep.ct : List CT := [.i .i64, .i .i64, .i .i64, .i .i64, .i .i64, .i .i64, .i .u64, .i .i64, .i .i64, .i .i64, .i .i64, .i .i64, .i .i64, .i .i64, .i .i64, .i .i64, .i .i64, .s, .i .i64, .i .i64, .s, .s, .i .i64, .i .i64, .i .i64, .s, .b, .i .i64, .sl [.i .i64, .i .i64, .i .i64, .i .i64, .i .i64], .s, .i .i64, .i .i64, .i .i64]
structure TStep.ok (x : TStep) : Prop where
  Kind : okI .i64 x.Kind
  At : x.At.ok
  To : x.To.ok
  N : okI .i64 x.N
  Pick : okI .u64 x.Pick
  Inc : x.Inc.ok
  Pool : okI .i64 x.Pool
  Op : x.Op.ok
  Name : okS x.Name
  Job : x.Job.ok
theorem TStep.of_fit {r : List DV} (h0 : fitR TStep.ct r) : ∃ x : TStep, r = x.row ∧ x.ok := by
  unfold TStep.ct at h0
  obtain ⟨_, _, rfl, f0, h1⟩ := fitR_cons h0
  obtain ⟨v0, rfl, o0⟩ := fitD_i f0
  obtain ⟨_, _, rfl, f1, h2⟩ := fitR_cons h1
  obtain ⟨v1, rfl, o1⟩ := fitD_i f1
  obtain ⟨_, _, rfl, f2, h3⟩ := fitR_cons h2
  obtain ⟨v2, rfl, o2⟩ := fitD_i f2
  obtain ⟨_, _, rfl, f3, h4⟩ := fitR_cons h3
  obtain ⟨v3, rfl, o3⟩ := fitD_i f3
  obtain ⟨_, _, rfl, f4, h5⟩ := fitR_cons h4
  obtain ⟨v4, rfl, o4⟩ := fitD_i f4
  obtain ⟨_, _, rfl, f5, h6⟩ := fitR_cons h5
  obtain ⟨v5, rfl, o5⟩ := fitD_i f5
  obtain ⟨_, _, rfl, f6, h7⟩ := fitR_cons h6
  obtain ⟨v6, rfl, o6⟩ := fitD_i f6
  obtain ⟨_, _, rfl, f7, h8⟩ := fitR_cons h7
  obtain ⟨v7, rfl, o7⟩ := fitD_i f7
  obtain ⟨_, _, rfl, f8, h9⟩ := fitR_cons h8
  obtain ⟨v8, rfl, o8⟩ := fitD_i f8
  obtain ⟨_, _, rfl, f9, h10⟩ := fitR_cons h9
  obtain ⟨v9, rfl, o9⟩ := fitD_i f9
  obtain ⟨_, _, rfl, f10, h11⟩ := fitR_cons h10
  obtain ⟨v10, rfl, o10⟩ := fitD_i f10
  obtain ⟨_, _, rfl, f11, h12⟩ := fitR_cons h11
  obtain ⟨v11, rfl, o11⟩ := fitD_i f11
  obtain ⟨_, _, rfl, f12, h13⟩ := fitR_cons h12
  obtain ⟨v12, rfl, o12⟩ := fitD_i f12
  obtain ⟨_, _, rfl, f13, h14⟩ := fitR_cons h13
  obtain ⟨v13, rfl, o13⟩ := fitD_i f13
  obtain ⟨_, _, rfl, f14, h15⟩ := fitR_cons h14
  obtain ⟨v14, rfl, o14⟩ := fitD_i f14
  obtain ⟨_, _, rfl, f15, h16⟩ := fitR_cons h15
  obtain ⟨v15, rfl, o15⟩ := fitD_i f15
  obtain ⟨_, _, rfl, f16, h17⟩ := fitR_cons h16
  obtain ⟨v16, rfl, o16⟩ := fitD_i f16
  obtain ⟨_, _, rfl, f17, h18⟩ := fitR_cons h17
  obtain ⟨v17, rfl, o17⟩ := fitD_s f17
  obtain ⟨_, _, rfl, f18, h19⟩ := fitR_cons h18
  obtain ⟨v18, rfl, o18⟩ := fitD_i f18
  obtain ⟨_, _, rfl, f19, h20⟩ := fitR_cons h19
  obtain ⟨v19, rfl, o19⟩ := fitD_i f19
  obtain ⟨_, _, rfl, f20, h21⟩ := fitR_cons h20
  obtain ⟨v20, rfl, o20⟩ := fitD_s f20
  obtain ⟨_, _, rfl, f21, h22⟩ := fitR_cons h21
  obtain ⟨v21, rfl, o21⟩ := fitD_s f21
  obtain ⟨_, _, rfl, f22, h23⟩ := fitR_cons h22
  obtain ⟨v22, rfl, o22⟩ := fitD_i f22
  obtain ⟨_, _, rfl, f23, h24⟩ := fitR_cons h23
  obtain ⟨v23, rfl, o23⟩ := fitD_i f23
  obtain ⟨_, _, rfl, f24, h25⟩ := fitR_cons h24
  obtain ⟨v24, rfl, o24⟩ := fitD_i f24
  obtain ⟨_, _, rfl, f25, h26⟩ := fitR_cons h25
  obtain ⟨v25, rfl, o25⟩ := fitD_s f25
  obtain ⟨_, _, rfl, f26, h27⟩ := fitR_cons h26
  obtain ⟨v26, rfl⟩ := fitD_b f26
  obtain ⟨_, _, rfl, f27, h28⟩ := fitR_cons h27
  obtain ⟨v27, rfl, o27⟩ := fitD_i f27
  obtain ⟨_, _, rfl, f28, h29⟩ := fitR_cons h28
  obtain ⟨v28, rfl, o28⟩ := fitD_sl (g := TPart.row) (φ := TPart.ok) f28 (fun r hr => TPart.of_fit hr)
  obtain ⟨_, _, rfl, f29, h30⟩ := fitR_cons h29
  obtain ⟨v29, rfl, o29⟩ := fitD_s f29
  obtain ⟨_, _, rfl, f30, h31⟩ := fitR_cons h30
  obtain ⟨v30, rfl, o30⟩ := fitD_i f30
  obtain ⟨_, _, rfl, f31, h32⟩ := fitR_cons h31
  obtain ⟨v31, rfl, o31⟩ := fitD_i f31
  obtain ⟨_, _, rfl, f32, h33⟩ := fitR_cons h32
  obtain ⟨v32, rfl, o32⟩ := fitD_i f32
  obtain rfl := fitR_nil h33
  exact ⟨⟨v0, ⟨v1, v2⟩, ⟨v3, v4⟩, v5, v6, ⟨v7, v8, v9, v10, ⟨v11, v12, v13, v14⟩⟩, v15, ⟨v16, v17, v18, v19, v20⟩, v21, ⟨v22, v23, v24, v25, v26, v27, v28, v29, v30, ⟨v31, v32⟩⟩⟩, rfl, ⟨o0, ⟨o1, o2⟩, ⟨o3, o4⟩, o5, o6, ⟨o7, o8, o9, o10, ⟨o11, o12, o13, o14⟩⟩, o15, ⟨o16, o17, o18, o19, o20⟩, o21, ⟨o22, o23, o24, o25, o27, o28.1, o28.2, o29, o30, ⟨o31, o32⟩⟩⟩⟩
end Go.Proofs.Ytpmgmingjggegaa.AL
